/- The abstract interpreter, part 3: operations that yield a value. -/
import Derived.Test.YtlcphnmkkilefaaDoorA2
set_option linter.unusedVariables false
set_option linter.unusedSimpArgs false
namespace Go.Proofs.YtlcphnmkkilefaaDoor.Ab
open Go Go.RowKit

def RelEs (C : Cells) : List Ent → List Value → Prop
  | [], vs => vs = []
  | e :: es, vs => ∃ v r, vs = v :: r ∧ RelEnt C [] (fun _ => undef) e v ∧ RelEs C es r
/-- What a call of the abstract interpreter says of the machine's. -/
def CallOk (P : Program) (f : FuncId) (args : List Ent) (R : RTy) (x : denR R) : Prop :=
  ∀ (O : Nat → Prop) (w : World) (cargs : Array Value), (∀ g, O g → g < w.heap.size) → AmbOk (Cst O w) → RelEs (Cst O w) args cargs.toList →
    Calls P f cargs w fun e w' => ∃ v, e = .returned v ∧ RelEnt (Cst O w') [] (fun _ => undef) (resE R x) v ∧ Below w.heap.size w w'

section
variable {P : Program} {cfg : Cfg} {O : Nat → Prop} {B : Base} {w0 w : World} {st : St} {lam : Nat → Value} {tm : Array Value} {C : Cells}

theorem RelV_bool {x : Bool} {v} (h : RelV C .bool x v) : v = .bool x := by
  unfold RelV at h; rw [if_neg (by simp [Ty.isS])] at h; simpa [Rd] using h
theorem RelV_int {k : IntKind} {x : Int} {v} (h : RelV C (.int k) x v) : v = .int k x := by
  unfold RelV at h; rw [if_neg (by simp [Ty.isS])] at h; simpa [Rd] using h
theorem RelV_str {x : ByteArray} {v} (h : RelV C .str x v) : v = .string x := by
  unfold RelV at h; rw [if_neg (by simp [Ty.isS])] at h; simpa [Rd] using h
theorem RelV_slice {T : Ty} {x : List (den T)} {v} (h : RelV C (.slice T) x v) : Rd C (.slice T) x [v] := by
  unfold RelV at h; rw [if_neg (by simp [Ty.isS])] at h; exact h
theorem RelV_struct {T : Ty} (hs : T.isS = true) {x : den T} {v} (h : RelV C T x v) : ∃ cs, v = .agg cs ∧ Rd C T x cs.toList := by
  unfold RelV at h; rw [if_pos hs] at h; exact h
theorem RelV_mk_bool (x : Bool) : RelV C .bool x (.bool x) := by
  unfold RelV; rw [if_neg (by simp [Ty.isS])]; simp [Rd]
theorem RelV_mk_int (k : IntKind) (x : Int) : RelV C (.int k) x (.int k x) := by
  unfold RelV; rw [if_neg (by simp [Ty.isS])]; simp [Rd]

theorem ent_rel {a : Act} (h : Rel O B w0 st lam a.tmps w) (x : Operand) : RelEnt (Cst (Full O st.objs lam) w) st.objs lam (ent st x) (a.eval x) := by
  cases x with
  | tmp t => exact h.env t
  | const v => rfl
  | func f => exact ⟨#[], rfl, rfl⟩
  | global g =>
    show RelEnt _ _ _ (ambE g) _
    unfold ambE
    split
    · rename_i T l hl
      obtain ⟨cs, h1, h2⟩ := h.amb g T l hl
      exact ⟨_, cs, rfl, h1, h2⟩
    · trivial
theorem entT_rel {a : Act} (h : Rel O B w0 st lam a.tmps w) (t : TypeId) (x : Operand) : RelEnt (Cst (Full O st.objs lam) w) st.objs lam (entT cfg t st x) (a.eval x) := by
  unfold entT
  split
  · split
    · split
      · rename_i hp; exact parseV_rel hp
      · rfl
    · rfl
  · exact ent_rel h _
theorem asT_rel {objs : List (Nat × Obj)} {T : Ty} {e : Ent} {x : den T} {v : Value} (h : asT T e = some x) (hr : RelEnt C objs lam e v) : RelV C T x v := by
  unfold asT at h
  split at h
  · obtain ⟨rfl, rfl⟩ := castT_some h; exact hr
  · obtain rfl : v = _ := hr; exact parseV_rel h
  · contradiction
theorem asInt_rel {objs : List (Nat × Obj)} {e : Ent} {x : Int} {v : Value} (h : asInt e = some x) (hr : RelEnt C objs lam e v) : ∃ k, v = .int k x := by
  unfold asInt at h
  split at h
  · simp only [Option.some.injEq] at h; subst h; exact ⟨_, RelV_int (C := C) hr⟩
  · simp only [Option.some.injEq] at h; subst h; obtain rfl : v = _ := hr; exact ⟨_, rfl⟩
  · contradiction

theorem Rel.world {w' : World} (h : Rel O B w0 st lam tm w) (hb : Below w.heap.size w w') : Rel O B w0 st lam tm w' := by
  have hC : ∀ a u, Cst (Full O st.objs lam) w a u → Cst (Full O st.objs lam) w' a u := fun a u ⟨h1, h2⟩ => ⟨h1, by
    rw [look_eq (hb.block _ (look_lt h2))]; exact h2⟩
  refine ⟨fun t => RelEnt_id (fun e v he => RelE_weak hC (fun _ _ => rfl) he) (h.env t), h.len, fun s o hs => ?_, h.apart, h.below.below hb, fun g hg => h.base g (Nat.le_trans hb.size hg), fun g hg => ⟨(h.out g hg).1, Nat.lt_of_lt_of_le (h.out g hg).2 hb.size⟩, h.amb.mono hC, h.stay⟩
  have hO := h.objs s o hs
  cases o with
  | box T x =>
    obtain ⟨g, c, e, h1, h2, h3, h4⟩ := hO
    refine ⟨g, c, e, h1, h2, ?_, Rd_mono hC h4⟩
    rw [hb.block g (Array.getElem?_eq_some_iff.1 h3).1]; exact h3
  | arr e T l =>
    obtain ⟨xs, ⟨h1, hN⟩, h2⟩ := hO
    refine ⟨xs, ⟨h1.kept (row := none) ⟨hb.os, hb.tape, hb.output, hb.size, fun k hk _ => hb.block k hk⟩ ?_, hN⟩, RdL_mono (fun _ _ => Rd_mono hC) h2⟩
    cases (lam s).ownBlock <;> simp
  | obj k T x =>
    obtain ⟨vs, h1, h2, h3⟩ := hO
    refine ⟨vs, h1, RepK_keep hC (fun g hg => hb.block g (h3 g (by rw [h1]; exact hg)).2) h2, fun g hg => ⟨(h3 g hg).1, Nat.lt_of_lt_of_le (h3 g hg).2 hb.size⟩⟩
theorem Rel.full_lt (h : Rel O B w0 st lam tm w) : ∀ g, Full O st.objs lam g → g < w.heap.size := by
  rintro g (h1 | ⟨s, o, h1, h2⟩)
  · exact (h.out g h1).2
  · have hO := h.objs s o h1
    cases o with
    | box T x =>
      obtain ⟨g', c, e, h3, h4, h5, _⟩ := hO
      rw [h3] at h2; simp [owns] at h2; subst h2
      exact (Array.getElem?_eq_some_iff.1 h5).1
    | arr e T l =>
      obtain ⟨xs, ⟨h3, _⟩, _⟩ := hO
      rcases h3.2 with ⟨hv, _⟩ | ⟨g', cap, cur, hv, _, hh, _⟩ <;> rw [hv] at h2 <;> simp [owns] at h2
      subst h2
      exact (Array.getElem?_eq_some_iff.1 hh).1
    | obj k T x =>
      obtain ⟨vs, h3, _, h4⟩ := hO
      exact (h4 g h2).2

/-- A value lies in cells at an address. -/
def Spot (C : Cells) (w : World) (T : Ty) (x : den T) (ad : Addr) : Prop := ∃ cs, Rd C T x cs ∧ ∀ j u, cs[j]? = some u → w.cell? (ad.add j) = some u
theorem run_loadAt {T : Ty} {t : TypeId} (ht : TOk P T t) {x : den T} {ad : Addr} (h : Spot C w T x ad) :
    ∃ v, (Instr.loadAt t (.pointer (some ad))).run P w = .ok v w ∧ RelV C T x v := by
  obtain ⟨cs, hr, hc⟩ := h
  refine ⟨_, ?_, RelV_of hr⟩
  simp only [Instr.loadAt, Instr.sureAddr, loadVar, Sem.run_bind, Sem.run_pure, Result.andThen_ok, ht.isAgg]
  cases hs : T.isS with
  | true =>
    have hl := run_loadCells_list (P := P) w ad cs hc
    rw [Rd_len hr] at hl
    simp only [if_true, Sem.run_bind, ht.sizeOf, Result.andThen_ok, hl, Sem.run_pure]
  | false =>
    obtain ⟨u, rfl, hu⟩ := Rd_cell hs hr
    have := hc 0 u rfl
    rw [Addr.add_zero'] at this
    simp [this]
theorem eptr_spot {objs : List (Nat × Obj)} {T : Ty} {x : den T} {v : Value} (h : RelE (Cst O w) objs lam (.eptr T x) v) : ∃ ad, v = .pointer (some ad) ∧ Spot (Cst O w) w T x ad := by
  obtain ⟨ad, cs, h1, h2, h3⟩ := h
  exact ⟨ad, h1, cs, h2, fun j u hj => (h3 j u hj).cell (Rd_one h2 u (List.mem_of_getElem? hj))⟩
theorem ref_spot {s : Nat} {p : List Nat} {v : Value} {T0 : Ty} {y : den T0} {T' : Ty} {z : den T'} (h : Rel O B w0 st lam tm w) (hr : RelE (Cst (Full O st.objs lam) w) st.objs lam (.ref s p) v)
    (ho : oget s st.objs = some (.box T0 y)) (hp : getP T0 y p = some ⟨T', z⟩) : ∃ ad, v = .pointer (some ad) ∧ Spot (Cst (Full O st.objs lam) w) w T' z ad := by
  obtain ⟨T, x, g, T2, off, h1, h2, h3, rfl⟩ := hr
  rw [ho] at h1
  simp only [Option.some.injEq, Obj.box.injEq] at h1
  obtain ⟨rfl, h1⟩ := h1
  obtain rfl := eq_of_heq h1
  obtain ⟨g', c, e, h4, h5, h6, h7⟩ := h.objs s _ ho
  rw [h2] at h4
  simp only [Value.pointer.injEq, Option.some.injEq, Addr.mk.injEq, and_true] at h4
  subst h4
  obtain ⟨o, sub, h8, h9, h10, _⟩ := getP_rd h7 hp
  rw [h3] at h8
  simp only [Option.some.injEq, Prod.mk.injEq] at h8
  obtain ⟨rfl, rfl⟩ := h8
  refine ⟨_, rfl, sub, h9, fun j u hj => ?_⟩
  rw [Addr.add_lit, cell_of_row w g (off + j) c e (0, 0) h6]
  simpa using h10 j u hj
theorem aref_spot {s i : Nat} {p : List Nat} {v : Value} {e0 : TypeId} {T0 : Ty} {l : List (den T0)} {T' : Ty} {z : den T'} (h : Rel O B w0 st lam tm w) (hr : RelE (Cst (Full O st.objs lam) w) st.objs lam (.aref s i p) v)
    (ho : oget s st.objs = some (.arr e0 T0 l)) (hp : getP T0 (l.getD i (dflt T0)) p = some ⟨T', z⟩) : ∃ ad, v = .pointer (some ad) ∧ Spot (Cst (Full O st.objs lam) w) w T' z ad := by
  obtain ⟨e, T, l', g, n, c, T2, off, h1, h2, h3, h3', rfl⟩ := hr
  rw [ho] at h1
  simp only [Option.some.injEq, Obj.arr.injEq] at h1
  obtain ⟨rfl, rfl, h1⟩ := h1
  obtain rfl := eq_of_heq h1
  obtain ⟨xs, ⟨h4, _⟩, h5⟩ := h.objs s _ ho
  obtain ⟨es, h6, h7⟩ := RdL_at i h3' h5
  obtain ⟨o, sub, h8, h9, h10, _⟩ := getP_rd h6 hp
  rw [h3] at h8
  simp only [Option.some.injEq, Prod.mk.injEq] at h8
  obtain ⟨rfl, rfl⟩ := h8
  refine ⟨_, rfl, sub, h9, fun j u hj => ?_⟩
  have h11 := h4.cells (g := g) (by rw [h2]; rfl) _ _ (h7 _ _ (h10 j u hj))
  rw [Addr.add_lit] at h11 ⊢
  rw [show i * T0.size + off + j = 0 + (i * T0.size + (off + j)) by omega]
  exact h11

/-- A field's address. -/
theorem run_fieldAt {T T' : Ty} {t : TypeId} (ht : TOk P T t) {f o : Nat} (hf : offF T f = some (T', o)) (ad : Addr) :
    (Instr.fieldAt t (.pointer (some ad)) f).run P w = .ok (.pointer (some (ad.add o))) w := by
  obtain ⟨fs, hu, _, hok⟩ := ht.fields (offF_isS hf)
  obtain ⟨fd, h1, h2, h3, h4, h5⟩ := fields_at hok hf
  have h1' : fs[f]? = some fd := by simpa using h1
  have hsz : T'.size ≠ 0 := by omega
  simp [Instr.fieldAt, run_underlying hu, h1', Instr.sureAddr, fieldPlace, h5.sizeOf, hsz, h2]
theorem add_add (a : Addr) (m n : Nat) : (a.add m).add n = a.add (m + n) := by
  unfold Addr.add
  by_cases hm : m = 0 <;> by_cases hn : n = 0 <;> simp_all [Nat.add_assoc]

theorem run_part {T : Ty} {t : TypeId} (ht : TOk P T t) {x : den T} {cs : Array Value} {off : Nat} {sub : List Value} (hr : Rd C T x sub) (h : ∀ j u, sub[j]? = some u → cs.toList[off + j]? = some u) (hl : off + T.size ≤ cs.size) :
    ∃ v, (part t cs off).run P w = .ok v w ∧ RelV C T x v := by
  refine ⟨_, ?_, RelV_of hr⟩
  simp only [part, Sem.run_bind, ht.isAgg, Result.andThen_ok]
  cases hs : T.isS with
  | true =>
    simp only [if_true, Sem.run_bind, ht.sizeOf, Result.andThen_ok, Sem.run_pure]
    congr 2
    apply Array.ext'
    have hlen := Rd_len hr
    apply List.ext_getElem?
    intro j
    rw [Array.toList_extract, List.extract_eq_take_drop]
    by_cases hj : j < sub.length
    · rw [List.getElem?_take_of_lt (by omega), List.getElem?_drop]
      have := h j _ (List.getElem?_eq_getElem hj)
      rw [this]; simp [hj]
    · rw [List.getElem?_eq_none (by simp; omega), List.getElem?_eq_none (by simp; omega)]
  | false =>
    obtain ⟨u, rfl, hu⟩ := Rd_cell hs hr
    have := h 0 u rfl
    simp only [Nat.add_zero] at this
    have h' : cs[off]? = some u := by simpa using this
    simp [h']

theorem run_field {T : Ty} {t : TypeId} (ht : TOk P T t) {x : den T} {v : Value} {f : Nat} {T' : Ty} {z : den T'} (hr : RelV C T x v) (hg : getF T x f = some ⟨T', z⟩) :
    ∃ u, (Instr.field t v f).run P w = .ok u w ∧ RelV C T' z u := by
  have hgs : ∃ o, offF T f = some (T', o) := by
    obtain ⟨o, sub, h1, _⟩ := getF_rd (RelV_cells hr) hg; exact ⟨o, h1⟩
  obtain ⟨_, hof⟩ := hgs
  have hs := offF_isS hof
  have hr' := hr
  unfold RelV at hr'
  rw [if_pos hs] at hr'
  obtain ⟨cs, rfl, hr'⟩ := hr'
  obtain ⟨o, sub, h1, h2, h3, h4⟩ := getF_rd hr' hg
  obtain ⟨fs, hu, _, hok⟩ := ht.fields hs
  obtain ⟨fd, h5, h6, h7, h8, h9⟩ := fields_at hok h1
  have h5' : fs[f]? = some fd := by simpa using h5
  have hl := Rd_len hr'
  obtain ⟨u, h10, h11⟩ := run_part (w := w) h9 (cs := cs) (off := o) h2 h3 (by simp at hl; omega)
  refine ⟨u, ?_, h11⟩
  simp [Instr.field, run_underlying hu, h5', asAgg, h6, h10]

/-! equality of values -/
theorem run_eqFields {d : Nat} : ∀ {T : Ty} (IH : ∀ {T' : Ty} {t' : TypeId} {a b : den T'} {va vb : Value} (w : World), T'.ht + 1 ≤ T.ht → cmpT T' = true → TOk P T' t' → RelV C T' a va → RelV C T' b vb → (Op.equalIn d t' va vb).run P w = .ok (eqT T' a b) w)
    {fs : List Field} {off : Nat} {a b : den T} {xs ys : Array Value} {sa sb : List Value}, cmpT T = true → (tOk P T).2 fs off = true → Rd C T a sa → Rd C T b sb → (∀ j u, sa[j]? = some u → xs.toList[off + j]? = some u) → (∀ j u, sb[j]? = some u → ys.toList[off + j]? = some u) →
      off + T.size ≤ xs.size → off + T.size ≤ ys.size → (Op.eqFields d xs ys fs).run P w = .ok (eqT T a b) w
  | .unit, _, fs, off, a, b, xs, ys, sa, sb, _, hok, ha, hb, hx, hy, _, _ => by
    simp only [tOk] at hok
    obtain rfl : fs = [] := by simpa using hok
    simp [Op.eqFields, eqT]
  | .prod A B, IH, fs, off, a, b, xs, ys, sa, sb, hcmp, hok, ⟨pa, qa, ea, ha1, ha2⟩, ⟨pb, qb, eb, hb1, hb2⟩, hx, hy, hlx, hly => by
    unfold tOk at hok
    dsimp only at hok
    split at hok
    · contradiction
    · rename_i f r
      simp only [Bool.and_eq_true, bne_iff_ne, ne_eq, Nat.beq_eq_true_eq] at hok
      obtain ⟨⟨⟨⟨h1, h2⟩, h3⟩, h4⟩, h5⟩ := hok
      have h1 : f.offset = off := by simpa using h1
      have h3 : 0 < A.size := by simpa using h3
      simp only [cmpT, Bool.and_eq_true] at hcmp
      subst ea; subst eb
      have la := Rd_len ha1; have lb := Rd_len hb1
      have h4 : TOk P A f.type := h4
      simp only [Ty.size] at hlx hly
      obtain ⟨va, h6, h7⟩ := run_part (w := w) h4 (cs := xs) (off := off) ha1 (fun j u hj => hx j u (by rw [List.getElem?_append_left (List.getElem?_eq_some_iff.1 hj).1]; exact hj)) (by omega)
      obtain ⟨vb, h8, h9⟩ := run_part (w := w) h4 (cs := ys) (off := off) hb1 (fun j u hj => hy j u (by rw [List.getElem?_append_left (List.getElem?_eq_some_iff.1 hj).1]; exact hj)) (by omega)
      have h10 := IH (a := a.1) (b := b.1) w (by simp only [Ty.ht]; omega) hcmp.1 h4 h7 h9
      have h11 := run_eqFields (T := B) (d := d) (fun {T' t' a b va vb} w hlt => IH w (by simp only [Ty.ht]; omega)) (fs := r) (off := off + A.size) (a := a.2) (b := b.2) (xs := xs) (ys := ys) hcmp.2 h5 ha2 hb2
        (fun j u hj => by have := hx (A.size + j) u (by rw [List.getElem?_append_right (by omega), la, Nat.add_sub_cancel_left]; exact hj); rw [Nat.add_assoc]; exact this)
        (fun j u hj => by have := hy (A.size + j) u (by rw [List.getElem?_append_right (by omega), lb, Nat.add_sub_cancel_left]; exact hj); rw [Nat.add_assoc]; exact this) (by omega) (by omega)
      simp only [Op.eqFields, h1, ne_eq, h2, not_false_eq_true, if_true, Sem.run_bind, h6, h8, h10, Result.andThen_ok, eqT]
      cases eqT A a.1 b.1 with
      | true => simp [h11]
      | false => simp
  | .int _, _, fs, off, _, _, _, _, _, _, _, hok, _, _, _, _, _, _ => by simp [tOk] at hok
  | .bool, _, fs, off, _, _, _, _, _, _, _, hok, _, _, _, _, _, _ => by simp [tOk] at hok
  | .str, _, fs, off, _, _, _, _, _, _, _, hok, _, _, _, _, _, _ => by simp [tOk] at hok
  | .slice _, _, fs, off, _, _, _, _, _, _, _, hok, _, _, _, _, _, _ => by simp [tOk] at hok
  | .f64, _, fs, off, _, _, _, _, _, _, _, hok, _, _, _, _, _, _ => by simp [tOk] at hok
  | .ptr _, _, fs, off, _, _, _, _, _, _, _, hok, _, _, _, _, _, _ => by simp [tOk] at hok
  | .map _, _, fs, off, _, _, _, _, _, _, _, hok, _, _, _, _, _, _ => by simp [tOk] at hok
theorem run_equalIn : ∀ (d : Nat) {T : Ty} {t : TypeId} {a b : den T} {va vb : Value} (w : World), T.ht ≤ d → cmpT T = true → TOk P T t → RelV C T a va → RelV C T b vb → (Op.equalIn d t va vb).run P w = .ok (eqT T a b) w
  | 0, T, _, _, _, _, _, _, hd, _, _, _, _ => by cases T <;> simp [Ty.ht] at hd
  | d + 1, T, t, a, b, va, vb, w, hd, hc, ht, ha, hb => by
    cases T with
    | int k =>
      obtain rfl := RelV_int ha; obtain rfl := RelV_int hb
      rw [run_equalIn_int w d t k k a b ht.int]
      rfl
    | bool =>
      obtain rfl := RelV_bool ha; obtain rfl := RelV_bool hb
      rw [run_equalIn_bool' w d t a b ht.bool]; rfl
    | str =>
      obtain rfl := RelV_str ha; obtain rfl := RelV_str hb
      rw [run_equalIn_string w d t a b ht.str]; rfl
    | slice e => simp [cmpT] at hc
    | f64 => simp [cmpT] at hc
    | ptr e => simp [cmpT] at hc
    | map e => simp [cmpT] at hc
    | unit =>
      obtain ⟨fs, hu, hst, hok⟩ := ht.fields rfl
      obtain ⟨xs, rfl, ha'⟩ := RelV_struct rfl ha
      obtain ⟨ys, rfl, hb'⟩ := RelV_struct rfl hb
      have hf : P.fieldsOf t = fs := by simp [Program.fieldsOf, hu]
      rw [run_equalIn_struct w d t xs ys (by rw [hf]; exact hu) hst, hf]
      exact run_eqFields (d := d) (fun w hlt => run_equalIn d w (by simp only [Ty.ht] at hd hlt; omega)) (off := 0) hc hok ha' hb' (fun j u hj => by rw [Nat.zero_add]; exact hj) (fun j u hj => by rw [Nat.zero_add]; exact hj)
        (by have := Rd_len ha'; simp at this; simp [Ty.size]) (by have := Rd_len hb'; simp at this; simp [Ty.size])
    | prod A B =>
      obtain ⟨fs, hu, hst, hok⟩ := ht.fields rfl
      obtain ⟨xs, rfl, ha'⟩ := RelV_struct rfl ha
      obtain ⟨ys, rfl, hb'⟩ := RelV_struct rfl hb
      have hf : P.fieldsOf t = fs := by simp [Program.fieldsOf, hu]
      rw [run_equalIn_struct w d t xs ys (by rw [hf]; exact hu) hst, hf]
      exact run_eqFields (d := d) (fun w hlt => run_equalIn d w (by omega)) (off := 0) hc hok ha' hb' (fun j u hj => by rw [Nat.zero_add]; exact hj) (fun j u hj => by rw [Nat.zero_add]; exact hj)
        (by have := Rd_len ha'; simp at this; omega) (by have := Rd_len hb'; simp at this; omega)

/-! guard of '==' -/
theorem eqGuardType_false : ∀ (d : Nat) {T : Ty} {t : TypeId}, T.ht ≤ d → TOk P T t → P.eqGuardType d t = false
  | 0, T, _, hd, _ => by cases T <;> simp [Ty.ht] at hd
  | d + 1, T, t, hd, ht => by
    cases T with
    | int k => simp [Program.eqGuardType, ht.int]
    | bool => simp [Program.eqGuardType, ht.bool]
    | str => simp [Program.eqGuardType, ht.str]
    | slice e => obtain ⟨u, hu, _⟩ := ht.slice; simp [Program.eqGuardType, hu]
    | f64 => simp [Program.eqGuardType, ht.f64]
    | ptr e => obtain ⟨u, hu, _⟩ := ht.ptr; simp [Program.eqGuardType, hu]
    | map e => obtain ⟨k, u, hu, _⟩ := ht.map; simp [Program.eqGuardType, hu]
    | unit =>
      obtain ⟨fs, hu, _, hok⟩ := ht.fields rfl
      simp only [tOk] at hok
      simp only [Program.eqGuardType, hu]
      have : fs.toList = [] := by simpa using hok
      simp [Array.any_toList.symm, this]
    | prod A B =>
      obtain ⟨fs, hu, _, hok⟩ := ht.fields rfl
      simp only [Program.eqGuardType, hu]
      rw [← Array.any_toList]
      have key : ∀ {T : Ty} {l : List Field} {off : Nat}, T.ht ≤ d + 1 → (tOk P T).2 l off = true → (l.any fun f => f.name != "_" && P.eqGuardType d f.type) = false := by
        intro T
        induction T with
        | unit => intro l off _ h; simp only [tOk] at h; obtain rfl : l = [] := (by simpa using h); simp
        | prod A B _ ihB =>
          intro l off hd h
          unfold tOk at h
          dsimp only at h
          split at h
          · contradiction
          · rename_i f r
            simp only [Bool.and_eq_true] at h
            have h1 : TOk P A f.type := h.1.2
            rw [List.any_cons, ihB (by simp only [Ty.ht] at hd; omega) h.2, eqGuardType_false d (by simp only [Ty.ht] at hd; omega) h1]
            simp
        | int _ => intro l off _ h; simp [tOk] at h
        | bool => intro l off _ h; simp [tOk] at h
        | str => intro l off _ h; simp [tOk] at h
        | slice _ _ => intro l off _ h; simp [tOk] at h
        | f64 => intro l off _ h; simp [tOk] at h
        | ptr _ _ => intro l off _ h; simp [tOk] at h
        | map _ _ => intro l off _ h; simp [tOk] at h
      exact key hd hok
end
end Go.Proofs.YtlcphnmkkilefaaDoor.Ab
