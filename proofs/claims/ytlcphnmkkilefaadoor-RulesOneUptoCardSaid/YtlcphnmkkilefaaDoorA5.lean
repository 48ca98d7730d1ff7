/- The abstract interpreter, part 5: all operations that yield a value. -/
import Derived.Test.YtlcphnmkkilefaaDoorA4
import Derived.Lib.ConvBytes
import Derived.Laws.BytesString
import Derived.Laws.Externs
set_option linter.unusedVariables false
set_option linter.unusedSimpArgs false
namespace Go.Proofs.YtlcphnmkkilefaaDoor.Ab
open Go Go.RowKit

section
variable {P : Program} {cfg : Cfg} {O : Nat → Prop} {B : Base} {w0 w : World} {st : St} {lam : Nat → Value} {tm : Array Value} {C : Cells} {α : Type}

theorem free1_rel {C : Cells} {objs objs' : List (Nat × Obj)} {lam lam' : Nat → Value} {e : E0} {v : Value} (hf : free1 e = true) (h : RelE C objs lam e v) : RelE C objs' lam' e v := by
  cases e <;> simp [free1, slotOf] at hf <;> exact h
theorem freeL_rel {C : Cells} {objs objs' : List (Nat × Obj)} {lam lam' : Nat → Value} : ∀ {es : List E0} {vs}, es.all free1 = true → RelL C objs lam es vs → RelL C objs' lam' es vs
  | [], _, _, h => h
  | e :: es, _, hf, ⟨v, r, h1, h2, h3⟩ => by
    simp only [List.all_cons, Bool.and_eq_true] at hf
    exact ⟨v, r, h1, free1_rel hf.1 h2, freeL_rel hf.2 h3⟩
theorem free_rel {C : Cells} {objs objs' : List (Nat × Obj)} {lam lam' : Nat → Value} {e : Ent} {v : Value} (hf : free e = true) (h : RelEnt C objs lam e v) : RelEnt C objs' lam' e v := by
  cases e with
  | s e => exact free1_rel hf h
  | fn f caps => obtain ⟨vs, h1, h2⟩ := h; exact ⟨vs, h1, freeL_rel hf h2⟩
  | tup es => simp [free] at hf
theorem resE_rel {C : Cells} {objs objs' : List (Nat × Obj)} {lam lam' : Nat → Value} {R : RTy} {x : denR R} {v : Value} (h : RelEnt C objs lam (resE R x) v) : RelEnt C objs' lam' (resE R x) v := by
  cases R with
  | none => exact h
  | one T => exact h
  | two A B => obtain ⟨vs, h1, a, r, h2, h3, b, s, h4, h5, h6⟩ := h; exact ⟨vs, h1, a, r, h2, h3, b, s, h4, h5, h6⟩
  | three A B D => obtain ⟨vs, h1, a, r, h2, h3, b, s, h4, h5, c, u, h6, h7, h8⟩ := h; exact ⟨vs, h1, a, r, h2, h3, b, s, h4, h5, c, u, h6, h7, h8⟩
theorem RelEs_append {C : Cells} : ∀ {es es' : List Ent} {vs vs' : List Value}, RelEs C es vs → RelEs C es' vs' → RelEs C (es ++ es') (vs ++ vs')
  | [], _, _, _, h, h' => by simp only [RelEs] at h; subst h; exact h'
  | e :: es, _, _, _, ⟨v, r, h1, h2, h3⟩, h' => ⟨v, r ++ _, by rw [h1]; rfl, h2, RelEs_append h3 h'⟩
theorem RelEs_caps {C : Cells} {objs : List (Nat × Obj)} {lam : Nat → Value} : ∀ {es : List E0} {vs}, es.all free1 = true → RelL C objs lam es vs → RelEs C (es.map .s) vs
  | [], _, _, h => h
  | e :: es, _, hf, ⟨v, r, h1, h2, h3⟩ => by
    simp only [List.all_cons, Bool.and_eq_true] at hf
    exact ⟨v, r, h1, free1_rel hf.1 h2, RelEs_caps hf.2 h3⟩
/-- What is owned, read as a value for a while. -/
theorem bor1_rel (hR : Rel O B w0 st lam tm w) {e : E0} {v : Value} (h : RelE (Cst (Full O st.objs lam) w) st.objs lam e v) : RelE (Cst O w) [] (fun _ => undef) (bor1 st.objs e) v := by
  have hC : ∀ a u, Cst (Full O st.objs lam) w a u → Cst O w a u := Cst_mono fun g hg => .inl hg
  cases e with
  | undef => trivial
  | val T x => exact RelV_mono hC h
  | eptr T x => obtain ⟨ad, cs, h1, h2, h3⟩ := h; exact ⟨ad, cs, h1, Rd_mono hC h2, fun j u hj => hC _ _ (h3 j u hj)⟩
  | cst c => exact h
  | aref s i p => trivial
  | aview s i => trivial
  | own s => trivial
  | glob T l => obtain ⟨ad, cs, h1, h2, h3⟩ := h; exact ⟨ad, cs, h1, RdL_mono (fun _ _ => Rd_mono hC) h2, fun j u hj => hC _ _ (h3 j u hj)⟩
  | arr s =>
    obtain ⟨⟨e, T, l, ho⟩, rfl⟩ := h
    simp only [bor1, ho]
    have hO := hR.objs s _ ho
    refine row_value hO _ hC fun g hg a u ha hc => ⟨?_, look_cell hc⟩
    obtain ⟨xs, ⟨_, hN⟩, _⟩ := hO
    rw [ha]; exact fun hO' => (hR.out g hO').1 (hN g hg)
  | ref s p =>
    obtain ⟨T, x, g, T', off, h1, h2, h3, rfl⟩ := h
    simp only [bor1, h1]
    split
    · rename_i T2 y hp
      obtain ⟨g', c, e', h4, h5, h6, h7⟩ := hR.objs s _ h1
      rw [h2] at h4
      simp only [Value.pointer.injEq, Option.some.injEq, Addr.mk.injEq, and_true] at h4
      subst h4
      obtain ⟨o, sub, h8, h9, h10, _⟩ := getP_rd h7 hp
      rw [h3] at h8
      simp only [Option.some.injEq, Prod.mk.injEq] at h8
      obtain ⟨rfl, rfl⟩ := h8
      refine ⟨_, sub, rfl, Rd_mono hC h9, fun j u hj => ⟨?_, ?_⟩⟩
      · rw [addr_block]
        exact fun hO' => (hR.out g hO').1 h5
      · have h11 := h10 j u hj
        refine look_cell ?_
        rw [Addr.add_lit, cell_of_row w g (off + j) c e' (0, 0) h6]
        simpa using h11
    · trivial
theorem bor_caps (hR : Rel O B w0 st lam tm w) : ∀ {es : List E0} {vs}, RelL (Cst (Full O st.objs lam) w) st.objs lam es vs → RelL (Cst O w) [] (fun _ => undef) (es.map (bor1 st.objs)) vs
  | [], _, h => h
  | e :: es, _, ⟨v, r, h1, h2, h3⟩ => ⟨v, r, h1, bor1_rel hR h2, bor_caps hR h3⟩
theorem bor_rel (hR : Rel O B w0 st lam tm w) {e : Ent} {v : Value} (h : RelEnt (Cst (Full O st.objs lam) w) st.objs lam e v) : RelEnt (Cst O w) [] (fun _ => undef) (map1 (bor1 st.objs) e) v := by
  cases e with
  | s e => exact bor1_rel hR h
  | fn g caps => obtain ⟨vs, h1, h2⟩ := h; exact ⟨vs, h1, bor_caps hR h2⟩
  | tup es => obtain ⟨vs, h1, h2⟩ := h; exact ⟨vs, h1, bor_caps hR h2⟩
/-- What a callee may not change. -/
def OutS (lend : Bool) (O : Nat → Prop) (st : St) (lam : Nat → Value) : Nat → Prop := bif lend then O else Full O st.objs lam
theorem args_rel {lend : Bool} {a : Act} (hR : Rel O B w0 st lam a.tmps w) : ∀ {xs : List Operand} {ts : List TypeId} {l : List Ent}, args? cfg lend st ts xs = some l → RelEs (Cst (OutS lend O st lam) w) l (xs.map a.eval)
  | [], ts, l, h => by
    simp only [args?, Option.some.injEq] at h; subst h; rfl
  | x :: r, ts, l, h => by
    simp only [args?] at h
    replace h := bif_some h; obtain ⟨hf, h⟩ := h
    obtain ⟨l', h1, rfl⟩ := Option.map_eq_some_iff.1 h
    refine ⟨_, _, rfl, ?_, args_rel hR h1⟩
    cases lend with
    | true => exact free_rel hf (bor_rel hR (entT_rel hR _ x))
    | false => exact free_rel hf (entT_rel hR _ x)
theorem RelV_mk {C : Cells} {T : Ty} {x : den T} {v : Value} (hs : Value.isAgg v = T.isS) (h : Rd C T x v.cells.toList) : RelV C T x v := by
  unfold RelV
  split
  · rename_i h1
    rw [h1] at hs
    cases v <;> simp [Value.isAgg] at hs
    exact ⟨_, rfl, h⟩
  · rename_i h1
    have hv : Value.isAgg v = false := by rw [hs]; simpa using h1
    cases v <;> simp [Value.isAgg] at hv <;> exact h
theorem findNow_rel {C : Cells} {V : Ty} (k : Int) : ∀ {l : List (Int × den V)} {m : List Value} {es : List MapEntry} (i : Nat), RdM V.isS (Rd C V) l m → es.map (fun e => Value.tuple #[e.key, e.val]) = m →
    (Instr.findNow (.int .i64) (.int .i64 k) es i = some none ∧ findM V k l = (dflt V, false)) ∨ ∃ j v, Instr.findNow (.int .i64) (.int .i64 k) es i = some (some (j, v)) ∧ (findM V k l).2 = true ∧ RelV C V (findM V k l).1 v
  | [], m, es, i, h, he => by
    simp only [RdM] at h
    subst h
    have : es = [] := by simpa using he
    subst this
    exact .inl ⟨rfl, rfl⟩
  | p :: l, m, es, i, ⟨v, r, h1, ⟨h2, h3⟩, h4⟩, he => by
    subst h1
    cases es with
    | nil => simp at he
    | cons e es =>
      simp only [List.map_cons, List.cons.injEq, Value.tuple.injEq] at he
      obtain ⟨he1, he2⟩ := he
      have hk : e.key = .int .i64 p.1 ∧ e.val = v := by
        have := congrArg Array.toList he1
        simpa using this
      simp only [Instr.findNow, hk.1, Instr.sameNow, if_true, findM]
      by_cases g : k = p.1
      · right
        refine ⟨i, v, ?_, ?_, ?_⟩
        · simp [g, hk.2]
        · simp [g]
        · simp only [g, decide_true, cond_true]
          exact RelV_mk h2 h3
      · rcases findNow_rel k (i + 1) h4 he2 with ⟨h5, h6⟩ | ⟨j, u, h5, h6, h7⟩
        · left
          have gb : (k == p.1) = false := by simpa using g
          simp [gb, g, h5, h6]
        · right
          have gb : (k == p.1) = false := by simpa using g
          refine ⟨j, u, by simp [gb, h5], ?_, ?_⟩
          · rw [decide_eq_false g]; exact h6
          · rw [decide_eq_false g]; exact h7
theorem run_lookup_rel {O : Nat → Prop} {objs : List (Nat × Obj)} {V : Ty} {t : TypeId} (ht : TOk P (.map V) t) {l : den (.map V)} {v : Value} (h : RelV (Cst O w) (.map V) l v) (k : Int) :
    ∃ u, (Instr.lookup t v (.int .i64 k) true).run P w = .ok u w ∧ RelEnt (Cst O w) objs lam (.tup [.val V (findM V k l).1, .val .bool (findM V k l).2]) u := by
  obtain ⟨kt, ut, hu, hk, hV⟩ := ht.map
  obtain ⟨z, hz, hzr⟩ := hV.zero w
  have hck : ∀ e, (Instr.checkKey e 10000 kt (.int .i64 k)).run P w = .ok () w := by
    intro e
    have : ∀ n, (Instr.checkKey e (n + 1) kt (.int .i64 k)).run P w = .ok () w := by
      intro n
      unfold Instr.checkKey
      simp [run_underlying hk]
    exact this 9999
  have fin : ∀ (x : den V) (b : Bool) (y : Value), RelV (Cst O w) V x y → RelEnt (Cst O w) objs lam (.tup [.val V x, .val .bool b]) (.tuple #[y, .bool b]) := by
    intro x b y hy
    exact ⟨_, rfl, y, [.bool b], rfl, hy, .bool b, [], rfl, RelV_mk_bool b, rfl⟩
  have fk : ∀ (es : List MapEntry) r, Instr.findNow (.int .i64) (.int .i64 k) es 0 = some r → (Instr.findKey kt (.int .i64 k) es).run P w = .ok r w := by
    intro es r hr
    simp [Instr.findKey, run_underlying hk, hr]
  unfold RelV at h
  rw [if_neg (by simp [Ty.isS])] at h
  rcases h with ⟨rfl, h⟩ | ⟨b, m, h, hm, hc⟩
  · simp only [List.cons.injEq, and_true] at h
    subst h
    refine ⟨.tuple #[z, .bool false], ?_, fin _ _ _ (hzr _)⟩
    simp [Instr.lookup, run_underlying hu, hck, fk [] none rfl, hz]
  · simp only [List.cons.injEq, and_true] at h
    subst h
    have hmv : mapV w b = some (.tuple m.toArray) := hc.2
    unfold mapV at hmv
    split at hmv
    · rename_i es clk hb
      simp only [Option.some.injEq, Value.tuple.injEq] at hmv
      have hem : es.toList.map (fun e => Value.tuple #[e.key, e.val]) = m := by
        have := congrArg Array.toList hmv
        simpa using this
      have hg : (getObj b).run P w = .ok (.map es clk) w := by simp [getObj, Sem.run, hb]
      rcases findNow_rel k 0 hm hem with ⟨h5, h6⟩ | ⟨j, u, h5, h6, h7⟩
      · refine ⟨.tuple #[z, .bool false], ?_, by rw [h6]; exact fin _ _ _ (hzr _)⟩
        simp [Instr.lookup, run_underlying hu, hg, hck, fk _ _ h5, hz]
      · refine ⟨.tuple #[u, .bool true], ?_, by rw [h6]; exact fin _ _ _ h7⟩
        simp [Instr.lookup, run_underlying hu, hg, hck, fk _ _ h5]
    · contradiction
theorem Rd_free {C C' : Cells} : ∀ {T : Ty} {x : den T} {cs}, sliceFree T = true → Rd C T x cs → Rd C' T x cs
  | .int _, _, _, _, h => h
  | .bool, _, _, _, h => h
  | .str, _, _, _, h => h
  | .slice _, _, _, hf, _ => by simp [sliceFree] at hf
  | .unit, _, _, _, h => h
  | .f64, _, _, _, h => h
  | .ptr _, _, _, hf, _ => by simp [sliceFree] at hf
  | .map _, _, _, hf, _ => by simp [sliceFree] at hf
  | .prod a b, _, _, hf, ⟨p, q, e, h1, h2⟩ => by
    simp only [sliceFree, Bool.and_eq_true] at hf
    exact ⟨p, q, e, Rd_free (T := a) hf.1 h1, Rd_free (T := b) hf.2 h2⟩
theorem RelV_free {C C' : Cells} {T : Ty} {x : den T} {v : Value} (hf : sliceFree T = true) (h : RelV C T x v) : RelV C' T x v := by
  unfold RelV at *
  split
  · rename_i hs; rw [if_pos hs] at h; obtain ⟨cs, e, h1⟩ := h; exact ⟨cs, e, Rd_free hf h1⟩
  · rename_i hs; rw [if_neg hs] at h; exact Rd_free hf h
theorem resE_free {C C' : Cells} {objs objs' : List (Nat × Obj)} {lam lam' : Nat → Value} {R : RTy} {x : denR R} {v : Value} (hf : sliceFreeR R = true) (h : RelEnt C objs lam (resE R x) v) : RelEnt C' objs' lam' (resE R x) v := by
  cases R with
  | none => exact h
  | one A => exact RelV_free hf h
  | two A D =>
    simp only [sliceFreeR, Bool.and_eq_true] at hf
    obtain ⟨vs, e, v1, r1, e1, h1, v2, r2, e2, h2, h3⟩ := h
    exact ⟨vs, e, v1, r1, e1, RelV_free hf.1 h1, v2, r2, e2, RelV_free hf.2 h2, h3⟩
  | three A D E =>
    simp only [sliceFreeR, Bool.and_eq_true] at hf
    obtain ⟨vs, e, v1, r1, e1, h1, v2, r2, e2, h2, v3, r3, e3, h3, h4⟩ := h
    exact ⟨vs, e, v1, r1, e1, RelV_free hf.1.1 h1, v2, r2, e2, RelV_free hf.1.2 h2, v3, r3, e3, RelV_free hf.2 h3, h4⟩
theorem caps_rel {C : Cells} {objs : List (Nat × Obj)} {lam : Nat → Value} : ∀ {es : List Ent} {vs : List Value} {cs : List E0}, caps? es = some cs → es.length = vs.length → (∀ (i : Nat) e v, es[i]? = some e → vs[i]? = some v → RelEnt C objs lam e v) → RelL C objs lam cs vs
  | [], [], cs, h, _, _ => by simp only [caps?, Option.some.injEq] at h; subst h; rfl
  | [], _ :: _, _, _, hl, _ => by simp at hl
  | e :: es, [], _, _, hl, _ => by simp at hl
  | e :: es, v :: vs, cs, h, hl, hr => by
    unfold caps? at h
    split at h
    · contradiction
    · rename_i heq
      obtain ⟨l, h1, rfl⟩ := Option.map_eq_some_iff.1 h
      simp only [List.cons.injEq] at heq
      obtain ⟨rfl, rfl⟩ := heq
      exact ⟨v, vs, rfl, hr 0 _ _ rfl rfl, caps_rel h1 (by simpa using hl) fun i e v h1 h2 => hr (i + 1) e v (by simpa using h1) (by simpa using h2)⟩
    · rename_i heq
      obtain ⟨l, h1, rfl⟩ := Option.map_eq_some_iff.1 h
      simp only [List.cons.injEq] at heq
      obtain ⟨rfl, rfl⟩ := heq
      exact ⟨v, vs, rfl, hr 0 _ _ rfl rfl, caps_rel h1 (by simpa using hl) fun i e v h1 h2 => hr (i + 1) e v (by simpa using h1) (by simpa using h2)⟩
    · rename_i heq
      obtain ⟨l, h1, rfl⟩ := Option.map_eq_some_iff.1 h
      simp only [List.cons.injEq] at heq
      obtain ⟨rfl, rfl⟩ := heq
      exact ⟨v, vs, rfl, hr 0 _ _ rfl rfl, caps_rel h1 (by simpa using hl) fun i e v h1 h2 => hr (i + 1) e v (by simpa using h1) (by simpa using h2)⟩
    · contradiction
theorem RelL_get {C : Cells} {objs : List (Nat × Obj)} {lam : Nat → Value} : ∀ {es : List E0} {vs : List Value} {i : Nat} {e : E0}, RelL C objs lam es vs → es[i]? = some e → ∃ v, vs[i]? = some v ∧ RelE C objs lam e v
  | e :: es, _, 0, _, ⟨v, r, h1, h2, h3⟩, hi => by simp at hi; subst hi; exact ⟨v, by rw [h1]; rfl, h2⟩
  | e :: es, _, i + 1, _, ⟨v, r, h1, h2, h3⟩, hi => by
    obtain ⟨u, h4, h5⟩ := RelL_get h3 (i := i) (by simpa using hi)
    exact ⟨u, by rw [h1]; simpa using h4, h5⟩

theorem run_callFunc {f : FuncId} {F : Func} (hf : P.funcs[f]? = some F) (hn : (F.name == "runtime.NumGoroutine") = false) {b : Code} (hb : F.body = some b) (args : Array Value) : (callFunc f args).run P w = .ok (.enter f args) w := by
  have hn' : ¬ F.name = "runtime.NumGoroutine" := by simpa using hn
  simp [callFunc, hf, hn', hb]

theorem run_indexArr {T : Ty} {t e : TypeId} {n : Nat} (hu : P.underlying t = some (.array n e)) (ht : TOk P T e) {ad : Addr} {k : IntKind} {i : Int} (h0 : 0 ≤ i) (h1 : i < n) :
    (Instr.indexAt t (.pointer (some ad)) (.int k i)).run P w = .ok (.pointer (some (ad.add (i.toNat * T.size)))) w := by
  simp [Instr.indexAt, Instr.sureAddr, asIntOf, run_underlying hu, h0, h1, ht.sizeOf]
theorem RelV_mk_f64 (n : Nat) : RelV C .f64 n (.float .f64 n) := by
  unfold RelV; rw [if_neg (by simp [Ty.isS])]; rfl
theorem RelV_mk_str (s : ByteArray) : RelV C .str s (.string s) := by
  unfold RelV; rw [if_neg (by simp [Ty.isS])]; rfl
theorem slice_rel {T : Ty} {l : List (den T)} {A : Option Addr} {n c : Nat} (h : RelV C (.slice T) l (.slice A n c)) (i j m : Nat) (hij : i ≤ j) (hjm : j ≤ m) (hj : j ≤ l.length) (hmc : m ≤ c) :
    RelV C (.slice T) ((l.take j).drop i) (.slice (if m = i then A else A.map (·.add (i * T.size))) (j - i) (m - i)) := by
  obtain ⟨A', n', c', xs, h2, h3, ⟨h4, hnil⟩, h5, h6⟩ := RelV_slice h
  simp only [List.cons.injEq, Value.slice.injEq, and_true] at h2
  obtain ⟨rfl, rfl, rfl⟩ := h2
  show Rd _ (.slice T) _ [_]
  refine ⟨_, _, _, (xs.take (j * T.size)).drop (i * T.size), rfl, by simp; omega, ⟨by omega, fun hn => by
    have : c = 0 := hnil (by split at hn <;> simp_all)
    omega⟩, RdL_drop _ (RdL_take _ h5), fun hp => ?_⟩
  obtain ⟨ad, rfl, h7⟩ := h6 (by omega)
  rw [if_neg (by omega)]
  refine ⟨_, rfl, fun q v hq => ?_⟩
  rw [add_add]
  rw [List.getElem?_drop] at hq
  have hlt := (List.getElem?_eq_some_iff.1 hq).1
  rw [List.getElem?_take_of_lt (by rw [List.length_take] at hlt; omega)] at hq
  exact h7 _ _ hq
theorem bytes_below (w : World) (e : TypeId) (s : ByteArray) : Below w.heap.size w (Lib.bytesWorld w e s) :=
  ⟨by simp [Lib.bytesWorld, World.freeze, World.alloc, World.drew, -World.alloc_eq, -World.drew_eq], by simp [Lib.bytesWorld, World.freeze, World.alloc, World.drew, -World.alloc_eq, -World.drew_eq], by simp [Lib.bytesWorld, World.freeze, World.alloc, World.drew, -World.alloc_eq, -World.drew_eq], by rw [Lib.bytesWorld_size]; omega, fun k hk => Lib.bytesWorld_at_old w e s k hk⟩
theorem RdL_ints {k : IntKind} : ∀ (l : List Int), RdL (Rd C (.int k)) l (l.map (Value.int k))
  | [] => rfl
  | x :: l => ⟨[.int k x], _, rfl, rfl, RdL_ints l⟩
theorem RdL_ints_eq {k : IntKind} : ∀ {l : List Int} {xs : List Value}, RdL (Rd C (.int k)) l xs → xs = l.map (Value.int k)
  | [], _, h => h
  | x :: l, _, ⟨a, b, e, h1, h2⟩ => by
    have h1' : a = [.int k x] := h1
    rw [e, h1', RdL_ints_eq h2]; rfl
theorem bytes_rel {objs : List (Nat × Obj)} {s : ByteArray} {e : TypeId} (hF : ∀ g, Full O objs lam g → g < w.heap.size) :
    RelEnt (Cst (Full O objs lam) (Lib.bytesWorld w e s)) objs lam (.s (.val (.slice (.int .u8)) (bytesL s))) (.slice (some ⟨w.heap.size, 0, none⟩) s.size (grownCap w s.size 0 e)) := by
  show Rd _ (.slice (.int .u8)) (bytesL s) [_]
  have hl : (bytesL s).length = s.size := by rw [bytesL, List.length_map, Array.length_toList]; rfl
  refine ⟨_, _, _, (bytesL s).map (Value.int .u8), rfl, hl.symm, ⟨grownCap_ge w s.size 0 e, fun h => by cases h⟩, RdL_ints _, fun hp => ⟨_, rfl, fun j u hj => ⟨fun hg => ?_, ?_⟩⟩⟩
  · rw [addr_block] at hg
    exact absurd (hF _ hg) (Nat.lt_irrefl _)
  · refine look_cell ?_
    have hjl : j < s.size := by
      have := (List.getElem?_eq_some_iff.1 hj).1
      rw [List.length_map, hl] at this; exact this
    rw [Addr.add_lit, Nat.zero_add, Lib.bytesWorld_cell w e s j hjl, ← hj]
    have hjd : j < s.data.toList.length := by rw [Array.length_toList]; exact hjl
    rw [bytesL, List.map_map, List.getElem?_map, List.getElem?_eq_getElem hjd, List.getD_eq_getElem?_getD, List.getElem?_eq_getElem hjd]; rfl
theorem run_str_rel {l : List Int} {v : Value} {O' : Nat → Prop} (h : RelV (Cst O' w) (.slice (.int .u8)) l v) : ∃ u, u = v ∧ (Conv.bytesToString v).run P w = .ok (.string (strL l)) w := by
  obtain ⟨A, n, c, xs, h2, h3, ⟨h4, hnil⟩, h5, h6⟩ := RelV_slice h
  have h2' : v = .slice A n c := by simpa using h2
  subst h2'
  refine ⟨_, rfl, ?_⟩
  have hxs := RdL_ints_eq h5
  cases A with
  | none =>
    have : l = [] := by
      cases l with
      | nil => rfl
      | cons x l =>
        obtain ⟨ad, h7, _⟩ := h6 (by rw [h3]; simp)
        cases h7
    subst this
    simp [Conv.bytesToString, strL]
  | some ad =>
    have := run_bytesToString (P := P) w ad n c l (by
      rw [h3, ← hxs]
      have hl := run_loadCells_list (P := P) (w := w) ad xs (fun j v hj => by
        have hjl := (List.getElem?_eq_some_iff.1 hj).1
        have hxl : xs.length = l.length := by rw [hxs]; simp
        obtain ⟨ad', h7, h8⟩ := h6 (by omega)
        simp only [Option.some.injEq] at h7
        subst h7
        have := h8 j v hj
        exact this.cell (by rw [hxs] at hj; simp only [List.getElem?_map, Option.map_eq_some_iff] at hj; obtain ⟨z, _, rfl⟩ := hj; rfl))
      rw [show l.length = xs.length by rw [hxs]; simp]
      exact hl)
    exact this
theorem ext_rel {k : Nat} {e : Array Value → Sem Value} (he : extF k = some e) {x : Ent} {v : Value} {objs : List (Nat × Obj)} (hx : RelEnt (Cst (Full O objs lam) w) objs lam x v) {K : Ent → Option α} {r : α} (h : extV k x K = some r) :
    ∃ e' u, K e' = some r ∧ (e #[v]).run P w = .ok u w ∧ RelEnt (Cst (Full O objs lam) w) objs lam e' u := by
  unfold extV at h
  split at h
  · simp only [extF, Option.some.injEq] at he
    subst he
    split at h
    · rename_i n hn
      have hv := RelV_int (asT_rel hn hx)
      exact ⟨_, _, h, by rw [hv]; exact (rfl : (Extern.MathFloatBits.float64frombits #[.int .u64 n]).run P w = .ok (.float .f64 (Int.toNat n)) w), RelV_mk_f64 (C := Cst (Full O objs lam) w) _⟩
    · contradiction
  · simp only [extF, Option.some.injEq] at he
    subst he
    split at h
    · rename_i n hn
      have hv := RelV_f64 (asT_rel hn hx)
      exact ⟨_, _, h, by rw [hv]; exact (rfl : (Extern.MathFloatBits.float64bits #[.float .f64 n]).run P w = .ok (.int .u64 ((n : Nat) : Int)) w), RelV_mk_int (C := Cst (Full O objs lam) w) _ _⟩
    · contradiction
  · contradiction

theorem opP_sound (hc : CfgOk P cfg) {call : Call0} (hcall : ∀ f args R x, call.p f args R = some x → CallOk P f args R x) (hbody : ∀ f F, lk f cfg.fns = some F → ∃ b, F.body = some b)
    {o : Oper} {a : Act} (hR : Rel O B w0 st lam a.tmps w) {K : Ent → Option α} {r : α} (h : opP cfg call o st K = some r) :
    Yield P O st lam w K r (execOp a.eval o) := by
  unfold opP at h
  split at h
  · -- move
    rename_i x hop
    exact .val ⟨_, _, h, by simp [execOp, hop], entT_rel hR _ x⟩
  · -- pick
    rename_i c x y hop
    split at h
    · rename_i t ht
      have hv := RelV_bool (asT_rel ht (ent_rel hR c))
      cases t with
      | true => exact .val ⟨_, a.eval x, h, by simp [execOp, hop, hv, asBool], entT_rel hR _ x⟩
      | false => exact .val ⟨_, a.eval y, h, by simp [execOp, hop, hv, asBool], entT_rel hR _ y⟩
    · contradiction
  · -- load
    rename_i t x hop
    split at h
    · contradiction
    · rename_i T hT
      have hx := ent_rel hR x
      have fin : ∀ {T' : Ty} {z : den T'} {u : den T} {ad : Addr}, castT T T' z = some u → K (.s (.val T u)) = some r → a.eval x = .pointer (some ad) → Spot (Cst (Full O st.objs lam) w) w T' z ad → Yield P O st lam w K r (execOp a.eval o) := by
        intro T' z u ad hz hk he hs
        obtain ⟨rfl, rfl⟩ := castT_some hz
        obtain ⟨v, h1, h2⟩ := run_loadAt (P := P) (hc.ty _ _ hT) hs
        exact .val ⟨_, v, hk, by simp [execOp, hop, he, h1], h2⟩
      split at h
      · rename_i T' y hent
        rw [hent] at hx
        obtain ⟨ad, he, hs⟩ := eptr_spot (objs := st.objs) (lam := lam) hx
        split at h
        · rename_i z hz; exact fin hz h he hs
        · contradiction
      · rename_i s p hent
        rw [hent] at hx
        split at h
        · rename_i T0 y ho
          split at h
          · rename_i T' z hp
            split at h
            · rename_i u hu
              obtain ⟨ad, he, hs⟩ := ref_spot hR hx ho hp
              exact fin hu h he hs
            · contradiction
          · contradiction
        · contradiction
      · rename_i s i p hent
        rw [hent] at hx
        split at h
        · rename_i e0 T0 l ho
          split at h
          · rename_i T' z hp
            split at h
            · rename_i u hu
              obtain ⟨ad, he, hs⟩ := aref_spot hR hx ho hp
              exact fin hu h he hs
            · contradiction
          · contradiction
        · contradiction
      · contradiction
  · -- indexAddr of a listed variable
    rename_i t g ix hop
    split at h
    · rename_i n e i T l hT hi hg
      obtain ⟨k, hk⟩ := asInt_rel hi (ent_rel hR ix)
      have hx := ent_rel hR (.global g)
      rw [hg] at hx
      replace h := bif_some h; obtain ⟨hb, h⟩ := h
      simp only [Bool.and_eq_true, decide_eq_true_eq] at hb
      obtain ⟨⟨⟨hn, hTe⟩, h0⟩, h1⟩ := hb
      have hn := Nat.eq_of_beq_eq_true hn
      obtain ⟨ad, cs, h2, h5, h6⟩ := hx
      have hu := hc.arr _ _ _ hT
      have hTu := hc.ty _ _ hTe
      obtain ⟨es, h8, h9⟩ := RdL_at i.toNat (by omega) h5
      refine .val ⟨_, .pointer (some (ad.add (i.toNat * T.size))), h, ?_, ad.add (i.toNat * T.size), es, rfl, h8, fun j v hj => ?_⟩
      · have hri := run_indexArr (P := P) (w := w) hu hTu (ad := ad) (k := k) h0 (by omega)
        simp only [execOp, hop, h2, hk, Sem.run_bind, hri, Result.andThen_ok, Sem.run_pure]
      · rw [add_add]; exact h6 _ _ (h9 j v hj)
    · contradiction
  · -- indexAddr
    rename_i t x ix _ hop
    split at h
    · rename_i T1 i hT hi
      obtain ⟨k, hk⟩ := asInt_rel hi (ent_rel hR ix)
      have hx := ent_rel hR x
      obtain ⟨u, hu, hTu⟩ := (hc.ty _ _ hT).slice
      split at h
      · rename_i T l hent
        rw [hent] at hx
        replace h := bif_some h; obtain ⟨hb, h⟩ := h
        simp only [Bool.and_eq_true, decide_eq_true_eq] at hb
        obtain ⟨⟨rfl, h0⟩, h1⟩ := hb
        obtain ⟨A, n, c, xs, h2, h3, ⟨h4, hnil⟩, h5, h6⟩ := RelV_slice hx
        have h2' : a.eval x = .slice A n c := by simpa using h2
        obtain ⟨ad, rfl, h7⟩ := h6 (by omega)
        obtain ⟨es, h8, h9⟩ := RdL_at i.toNat (by omega) h5
        refine .val ⟨_, .pointer (some (ad.add (i.toNat * T.size))), h, ?_, ad.add (i.toNat * T.size), es, rfl, h8, fun j v hj => ?_⟩
        · have hri := run_indexAt (P := P) (w := w) hu hTu (ad := ad) (n := n) (c := c) (k := k) h0 (by omega)
          simp only [execOp, hop, h2', hk, Sem.run_bind, hri, Result.andThen_ok, Sem.run_pure]
        · rw [add_add]; exact h7 _ _ (h9 j v hj)
      · rename_i s hent
        rw [hent] at hx
        split at h
        · rename_i e T l ho
          replace h := bif_some h; obtain ⟨hb, h⟩ := h
          simp only [Bool.and_eq_true, decide_eq_true_eq] at hb
          obtain ⟨⟨rfl, h0⟩, h1⟩ := hb
          obtain ⟨_, hv⟩ := hx
          obtain ⟨xs, ⟨h4, _⟩, h5⟩ := hR.objs s _ ho
          rcases h4.2 with ⟨hv2, hl0⟩ | ⟨g, cap, cur, hv2, _⟩
          · omega
          · refine .val ⟨_, .pointer (some ⟨g, i.toNat * T.size + 0, none⟩), h, ?_, e, T, l, g, l.length, cap, T, 0, ho, hv2, rfl, by omega, rfl⟩
            have hri := run_indexAt (P := P) (w := w) hu hTu (ad := ⟨g, 0, none⟩) (n := l.length) (c := cap) (k := k) h0 h1
            simp only [execOp, hop, hv, hv2, hk, Sem.run_bind, hri, Result.andThen_ok, Sem.run_pure, Addr.add_lit, Nat.zero_add, Nat.add_zero]
        · contradiction
      · contradiction
    · contradiction
  · -- fieldAddr
    rename_i t x f hop
    split at h
    · contradiction
    · rename_i T1 hT
      have hx := ent_rel hR x
      split at h
      · rename_i T y hent
        rw [hent] at hx
        replace h := bif_some h; obtain ⟨hb, h⟩ := h
        obtain rfl := of_decide_eq_true hb
        split at h
        · rename_i T' z hg
          obtain ⟨ad, cs, h1, h2, h3⟩ := hx
          obtain ⟨off, sub, h4, h5, h6, _⟩ := getF_rd h2 hg
          refine .val ⟨_, .pointer (some (ad.add off)), h, ?_, ad.add off, sub, rfl, h5, fun j u hj => ?_⟩
          · simp only [execOp, hop, h1, Sem.run_bind, run_fieldAt (hc.ty _ _ hT) h4, Result.andThen_ok, Sem.run_pure]
          · rw [add_add]; exact h3 _ _ (h6 j u hj)
        · contradiction
      · rename_i s p hent
        rw [hent] at hx
        split at h
        · rename_i T0 y ho
          split at h
          · rename_i T2 off hp
            replace h := bif_some h; obtain ⟨hb, h⟩ := h
            simp only [Bool.and_eq_true, decide_eq_true_eq] at hb
            obtain ⟨rfl, hf⟩ := hb
            obtain ⟨⟨T3, o3⟩, hf⟩ := Option.isSome_iff_exists.1 hf
            obtain ⟨T4, x4, g, T5, off5, h1, h2, h3, h4⟩ := hx
            rw [ho] at h1
            simp only [Option.some.injEq, Obj.box.injEq] at h1
            obtain ⟨rfl, h1⟩ := h1
            rw [hp] at h3
            simp only [Option.some.injEq, Prod.mk.injEq] at h3
            obtain ⟨rfl, rfl⟩ := h3
            refine .val ⟨_, .pointer (some ⟨g, off + o3, none⟩), h, ?_, T0, y, g, T3, off + o3, ho, h2, offP_snoc hp hf, rfl⟩
            simp only [execOp, hop, h4, Sem.run_bind, run_fieldAt (hc.ty _ _ hT) hf, Result.andThen_ok, Sem.run_pure, Addr.add_lit]
          · contradiction
        · contradiction
      · rename_i s i p hent
        rw [hent] at hx
        split at h
        · rename_i e0 T0 l ho
          split at h
          · rename_i T2 off hp
            replace h := bif_some h; obtain ⟨hb, h⟩ := h
            simp only [Bool.and_eq_true, decide_eq_true_eq] at hb
            obtain ⟨rfl, hf⟩ := hb
            obtain ⟨⟨T3, o3⟩, hf⟩ := Option.isSome_iff_exists.1 hf
            obtain ⟨e4, T4, l4, g, n, c, T5, off5, h1, h2, h3, h3', h4⟩ := hx
            rw [ho] at h1
            simp only [Option.some.injEq, Obj.arr.injEq] at h1
            obtain ⟨rfl, rfl, h1⟩ := h1
            obtain rfl := eq_of_heq h1
            rw [hp] at h3
            simp only [Option.some.injEq, Prod.mk.injEq] at h3
            obtain ⟨rfl, rfl⟩ := h3
            refine .val ⟨_, .pointer (some ⟨g, i * T0.size + (off + o3), none⟩), h, ?_, e0, T0, l, g, n, c, T3, off + o3, ho, h2, offP_snoc hp hf, h3', rfl⟩
            simp only [execOp, hop, h4, Sem.run_bind, run_fieldAt (hc.ty _ _ hT) hf, Result.andThen_ok, Sem.run_pure, Addr.add_lit, Nat.add_assoc]
          · contradiction
        · contradiction
      · contradiction
  · -- field
    rename_i t x f hop
    split at h
    · contradiction
    · rename_i T hT
      split at h
      · contradiction
      · rename_i y hy
        split at h
        · rename_i T' z hg
          obtain ⟨u, h1, h2⟩ := run_field (w := w) (hc.ty _ _ hT) (asT_rel hy (ent_rel hR x)) hg
          exact .val ⟨_, u, h, by simp [execOp, hop, h1], h2⟩
        · contradiction
  · -- shr
    rename_i t x y t' hop
    split at h
    · rename_i k hT
      split at h
      · rename_i p q hp hq
        replace h := bif_some h; obtain ⟨hb, h⟩ := h
        have h0 := of_decide_eq_true hb
        have hx := RelV_int (asT_rel hp (ent_rel hR x))
        obtain ⟨k', hy⟩ := asInt_rel hq (ent_rel hR y)
        refine .val ⟨_, .int k (Int.fdiv p (2 ^ (min q.toNat k.bits))), h, ?_, RelV_mk_int (C := Cst (Full O st.objs lam) w) k _⟩
        have : ¬ q < 0 := by omega
        simp [execOp, hop, hx, hy, eqGuard, binOp, Op.shift, this]
      · contradiction
    · contradiction
  · -- shl
    rename_i t x y t' hop
    split at h
    · rename_i k hT
      split at h
      · rename_i p q hp hq
        replace h := bif_some h; obtain ⟨hb, h⟩ := h
        have h0 := of_decide_eq_true hb
        have hx := RelV_int (asT_rel hp (ent_rel hR x))
        obtain ⟨k', hy⟩ := asInt_rel hq (ent_rel hR y)
        refine .val ⟨_, .int k (k.wrap (p * 2 ^ (min q.toNat k.bits))), h, ?_, RelV_mk_int (C := Cst (Full O st.objs lam) w) k _⟩
        have : ¬ q < 0 := by omega
        simp [execOp, hop, hx, hy, eqGuard, binOp, Op.shift, this]
      · contradiction
    · contradiction
  · -- binOp
    rename_i op t x y t' _ _ hop
    split at h
    · contradiction
    · rename_i T hT
      replace h := bif_some h; obtain ⟨_, h⟩ := h
      split at h
      · contradiction
      · rename_i p hp
        split at h
        · contradiction
        · rename_i q hq
          obtain ⟨e, v, h1, h2, h3⟩ := bin_sound (w := w) (hc.ty _ _ hT) (hc.ht _ _ hT) x y (asT_rel hp (ent_rel hR x)) (asT_rel hq (ent_rel hR y)) h
          exact .val ⟨e, v, h1, by simp only [execOp, hop]; rw [Sem.run_bind, h2]; rfl, h3 _ _ _⟩
  · -- not
    rename_i t x hop
    split at h
    · rename_i b hb
      have hv := RelV_bool (asT_rel hb (ent_rel hR x))
      exact .val ⟨_, .bool (!b), h, by simp [execOp, hop, hv, Op.unary], RelV_mk_bool (C := Cst (Full O st.objs lam) w) _⟩
    · contradiction
  · -- convert
    rename_i t t' x hop
    split at h
    · rename_i k k' hT hT'
      split at h
      · rename_i n hn
        have hv := RelV_int (asT_rel hn (ent_rel hR x))
        refine .val ⟨_, .int k' (k'.wrap n), h, ?_, RelV_mk_int (C := Cst (Full O st.objs lam) w) k' _⟩
        simp [execOp, hop, hv, convert, run_underlying (hc.ty _ _ hT).int, run_underlying (hc.ty _ _ hT').int, Conv.intToInt]
      · contradiction
    · rename_i hT hT'
      split at h
      · rename_i s hs
        have hv := RelV_str (asT_rel hs (ent_rel hR x))
        obtain ⟨u, hu, hTu⟩ := (hc.ty _ _ hT').slice
        refine .inl ⟨_, _, _, h, ?_, bytes_rel hR.full_lt, bytes_below w u s⟩
        simp only [execOp, hop, hv]
        rw [Sem.run_bind, Lib.run_convert_string_bytes w t t' u s (hc.ty _ _ hT).str hu hTu.int]; rfl
      · contradiction
    · rename_i hT hT'
      split at h
      · rename_i l hl
        have hx := asT_rel hl (ent_rel hR x)
        obtain ⟨u, hu, hTu⟩ := (hc.ty _ _ hT).slice
        obtain ⟨v, hv, hrun⟩ := run_str_rel (P := P) hx
        refine .val ⟨_, .string (strL l), h, ?_, RelV_mk_str (C := Cst (Full O st.objs lam) w) _⟩
        obtain ⟨A, n, c, xs, h2, _⟩ := RelV_slice hx
        have h2' : a.eval x = .slice A n c := by simpa using h2
        simp only [execOp, hop]
        rw [Sem.run_bind, h2', run_convert_bytes_string w t t' u A n c hu hTu.int (hc.ty _ _ hT').str, ← h2', hrun]; rfl
      · contradiction
    · contradiction
  · -- extract
    rename_i x ix hop
    have hx := ent_rel hR x
    split at h
    · rename_i es hent
      rw [hent] at hx
      obtain ⟨vs, h1, h2⟩ := hx
      split at h
      · rename_i e he
        obtain ⟨v, h3, h4⟩ := RelL_get h2 he
        have h3' : vs[ix]? = some v := by simpa using h3
        exact .val ⟨_, v, h, by simp [execOp, hop, h1, Instr.extract, h3'], h4⟩
      · contradiction
    · contradiction
  · -- nilCheck
    rename_i x hop
    have hx := ent_rel hR x
    split at h
    · rename_i T y hent
      rw [hent] at hx
      have hx' := hx
      obtain ⟨ad, cs, h1, h2⟩ := hx
      exact .val ⟨_, a.eval x, h, by simp [execOp, hop, h1], hx'⟩
    · rename_i s p hent
      rw [hent] at hx
      have hx' := hx
      obtain ⟨_, _, _, _, _, _, _, _, h1⟩ := hx
      exact .val ⟨_, a.eval x, h, by simp [execOp, hop, h1], hx'⟩
    · rename_i s i p hent
      rw [hent] at hx
      have hx' := hx
      obtain ⟨_, _, _, _, _, _, _, _, _, _, _, _, h1⟩ := hx
      exact .val ⟨_, a.eval x, h, by simp [execOp, hop, h1], hx'⟩
    · rename_i s hent
      rw [hent] at hx
      have hx' := hx
      obtain ⟨_, _, _, _, _, _, _, _, h1⟩ := hx
      exact .val ⟨_, a.eval x, h, by simp [execOp, hop, h1], hx'⟩
    · rename_i T0 y0 hent
      rw [hent] at hx
      have hT : ∃ T y, ∃ e : T0 = .ptr T, (e ▸ y0 : den (.ptr T)) = some y ∧ K (.s (.eptr T y)) = some r := by
        unfold derefK at h
        split at h
        · rename_i y e k
          obtain ⟨z, hz, hk⟩ := Option.bind_eq_some_iff.1 h
          exact ⟨e, z, rfl, hz, hk⟩
        · contradiction
      obtain ⟨T, y, rfl, hy, h⟩ := hT
      have hy : y0 = some y := hy
      subst hy
      have hx' : RelV _ (.ptr T) (some y) (a.eval x) := hx
      unfold RelV at hx'
      rw [if_neg (by simp [Ty.isS])] at hx'
      obtain ⟨ad, sub, h1, h2, h3⟩ := hx'
      simp only [List.cons.injEq, and_true] at h1
      exact .val ⟨_, a.eval x, h, by simp [execOp, hop, h1], ad, sub, h1, h2, h3⟩
    · contradiction
  · -- lookup
    rename_i t x ix hop
    split at h
    · rename_i V hT
      split at h
      · rename_i l k hl hk
        have hk' := RelV_int (asT_rel hk (ent_rel hR ix))
        obtain ⟨v, h1, h2⟩ := run_lookup_rel (hc.ty _ _ hT) (asT_rel hl (ent_rel hR x)) k
        exact .val ⟨_, v, h, by simp [execOp, hop, hk', h1], h2⟩
      · contradiction
    · contradiction
  · -- build
    rename_i t parts hop
    split at h
    · contradiction
    · rename_i T hT
      replace h := bif_some h; obtain ⟨hs, h⟩ := h
      split at h
      · rename_i x hx
        obtain ⟨v, h1, h2⟩ := run_build_rel hR (hc.ty _ _ hT) hs hx
        refine .val ⟨_, v, h, ?_, h2⟩
        simp only [execOp, hop]; rw [Sem.run_bind, h1]; rfl
      · contradiction
  · -- makeFunc
    rename_i f first captured hop
    split at h
    · rename_i cs hfirst hcs
      have hf : first = #[] := by simpa using hfirst
      refine .val ⟨_, .func (.func f) #[] (captured.map a.eval), h, by simp [execOp, hop, hf, Instr.makeFunc], _, rfl, ?_⟩
      refine caps_rel hcs (by simp) fun i e v he hv => ?_
      simp only [Array.toList_map, List.getElem?_map, Option.map_eq_some_iff] at he hv
      obtain ⟨x, h1, rfl⟩ := he
      obtain ⟨y, h2, rfl⟩ := hv
      rw [h1] at h2
      simp only [Option.some.injEq] at h2
      subst h2
      exact ent_rel hR x
    · contradiction
  · -- len
    rename_i args argTypes hop
    split at h
    · rename_i x t hargs htys
      have e1 : args = #[x] := by apply Array.ext'; simpa using hargs
      have e2 : argTypes = #[t] := by apply Array.ext'; simpa using htys
      subst e1; subst e2
      have hx := ent_rel hR x
      split at h
      · rename_i T1 T l hT hent
        rw [hent] at hx
        obtain ⟨u, hu, hTu⟩ := (hc.ty _ _ hT).slice
        obtain ⟨A, n, c, xs, h2, h3, ⟨h4, hnil⟩, h5, h6⟩ := RelV_slice hx
        have h2' : a.eval x = .slice A n c := by simpa using h2
        refine .val ⟨_, .int .i64 (l.length : Int), h, ?_, RelV_mk_int (C := Cst (Full O st.objs lam) w) _ _⟩
        simp [execOp, hop, resolve, invoke, builtin, Builtin.len_, h2', run_underlying hu, goInt, h3]
      · rename_i s hT hent
        rw [hent] at hx
        have hv := RelV_str (C := Cst (Full O st.objs lam) w) hx
        refine .val ⟨_, .int .i64 (ByteArray.size s : Int), h, ?_, RelV_mk_int (C := Cst (Full O st.objs lam) w) _ _⟩
        simp [execOp, hop, resolve, invoke, builtin, Builtin.len_, hv, run_underlying (hc.ty _ _ hT).str, goInt]
      · rename_i T1 s hT hent
        rw [hent] at hx
        obtain ⟨u, hu, hTu⟩ := (hc.ty _ _ hT).slice
        split at h
        · rename_i e T l ho
          obtain ⟨_, hv⟩ := hx
          obtain ⟨xs, ⟨h4, _⟩, h5⟩ := hR.objs s _ ho
          have hsl : ∃ A c, lam s = .slice A l.length c := by
            rcases h4.2 with ⟨hv2, hl0⟩ | ⟨g, cap, cur, hv2, _⟩
            · exact ⟨none, 0, by rw [hv2, hl0]⟩
            · exact ⟨_, _, hv2⟩
          obtain ⟨A, c, hv2⟩ := hsl
          refine .val ⟨_, .int .i64 (l.length : Int), h, ?_, RelV_mk_int (C := Cst (Full O st.objs lam) w) _ _⟩
          simp [execOp, hop, resolve, invoke, builtin, Builtin.len_, hv, hv2, run_underlying hu, goInt]
        · contradiction
      · contradiction
    · contradiction
  · -- max
    rename_i args ats hop
    split at h
    · rename_i x y k hxy hk
      have e1 : args = #[x, y] := by apply Array.ext'; simpa using hxy
      subst e1
      split at h
      · rename_i p q hp hq
        have hx := RelV_int (asT_rel hp (ent_rel hR x))
        have hy := RelV_int (asT_rel hq (ent_rel hR y))
        refine .val ⟨_, .int k (bif decide ((p : Int) < q) then q else p), h, ?_, RelV_mk_int (C := Cst (Full O st.objs lam) w) _ _⟩
        simp only [execOp, hop, resolve, invoke, builtin, Builtin.max_, Builtin.max2, hx, hy, List.map_toArray, List.map_cons, List.map_nil, List.foldlM_cons, List.foldlM_nil, Sem.run_bind, Sem.run_pure, Result.andThen_ok]
        by_cases g : (p : Int) < q <;> simp [g]
      · contradiction
    · contradiction
  · -- min
    rename_i args ats hop
    split at h
    · rename_i x y k hxy hk
      have e1 : args = #[x, y] := by apply Array.ext'; simpa using hxy
      subst e1
      split at h
      · rename_i p q hp hq
        have hx := RelV_int (asT_rel hp (ent_rel hR x))
        have hy := RelV_int (asT_rel hq (ent_rel hR y))
        refine .val ⟨_, .int k (bif decide ((q : Int) < p) then q else p), h, ?_, RelV_mk_int (C := Cst (Full O st.objs lam) w) _ _⟩
        simp only [execOp, hop, resolve, invoke, builtin, Builtin.min_, Builtin.min2, hx, hy, List.map_toArray, List.map_cons, List.map_nil, List.foldlM_cons, List.foldlM_nil, Sem.run_bind, Sem.run_pure, Result.andThen_ok]
        by_cases g : (q : Int) < p <;> simp [g]
      · contradiction
    · contradiction
  · -- slice
    rename_i t x lo hi hop
    split at h
    · rename_i T hT
      split at h
      · contradiction
      · rename_i l hl
        obtain ⟨u, hu, hTu⟩ := (hc.ty _ _ hT).slice
        obtain ⟨A, n, c, xs, h2, h3, ⟨h4, hnil⟩, h5, h6⟩ := RelV_slice (asT_rel hl (ent_rel hR x))
        have h2' : a.eval x = .slice A n c := by simpa using h2
        split at h
        · rename_i i j hlo hhi
          replace h := bif_some h; obtain ⟨hb, h⟩ := h
          simp only [Bool.and_eq_true, decide_eq_true_eq] at hb
          obtain ⟨⟨h0, h01⟩, h1⟩ := hb
          have hbd : (Instr.sliceBounds true n c (lo.map a.eval) (hi.map a.eval) none).run P w = .ok (i.toNat, j.toNat, c) w := by
            have bnd : ∀ (y : Operand) (q : Int) (m : Nat) (code : BoundsCode), asInt (ent st y) = some q → 0 ≤ q → q ≤ m → (Instr.sliceBound (a.eval y) m code).run P w = .ok q.toNat w := by
              intro y q m code hy hq0 hq1
              obtain ⟨k, hk⟩ := asInt_rel hy (ent_rel hR y)
              simp [Instr.sliceBound, asIntOf, hk, hq0, hq1]
            unfold Instr.sliceBounds
            cases hi with
            | none =>
              simp only [Option.some.injEq] at hhi
              subst hhi
              cases lo with
              | none => simp only [Option.some.injEq] at hlo; subst hlo; simp; omega
              | some y =>
                have := bnd y i n .sliceB hlo h0 (by omega)
                simp [this]; omega
            | some z =>
              have hz := bnd z j c .sliceAcap hhi (by omega) (by omega)
              cases lo with
              | none => simp only [Option.some.injEq] at hlo; subst hlo; simp [hz]
              | some y =>
                have := bnd y i j.toNat .sliceB hlo h0 (by omega)
                simp [hz, this]
          have hrun : (Instr.slice t (.slice A n c) (lo.map a.eval) (hi.map a.eval) none).run P w = .ok (.slice (if c = i.toNat then A else A.map (·.add (i.toNat * T.size))) (j.toNat - i.toNat) (c - i.toNat)) w := by
            simp only [Instr.slice, Sem.run_bind, run_underlying hu, Result.andThen_ok, hbd, hTu.sizeOf, Sem.run_pure]
          have hrun' : (execOp a.eval o).run P w = .ok (.value (.slice (if c = i.toNat then A else A.map (·.add (i.toNat * T.size))) (j.toNat - i.toNat) (c - i.toNat))) w := by
            simp only [execOp, hop, Option.map_none]
            rw [Sem.run_bind]
            simp only [Instr.sliceAt, Sem.run_bind, run_underlying hu, Result.andThen_ok, h2', hrun, Sem.run_pure]
          have hrel : RelV (Cst (Full O st.objs lam) w) (.slice T) ((l.take j.toNat).drop i.toNat) (.slice (if c = i.toNat then A else A.map (·.add (i.toNat * T.size))) (j.toNat - i.toNat) (c - i.toNat)) := by
            show Rd _ (.slice T) _ [_]
            refine ⟨_, _, _, (xs.take (j.toNat * T.size)).drop (i.toNat * T.size), rfl, by simp; omega, ⟨by omega, fun hn => by
              have : c = 0 := hnil (by split at hn <;> simp_all)
              omega⟩, RdL_drop _ (RdL_take _ h5), fun hp => ?_⟩
            obtain ⟨ad, rfl, h7⟩ := h6 (by omega)
            rw [if_neg (by omega)]
            refine ⟨_, rfl, fun q v hq => ?_⟩
            rw [add_add]
            rw [List.getElem?_drop] at hq
            have hlt := (List.getElem?_eq_some_iff.1 hq).1
            rw [List.getElem?_take_of_lt (by rw [List.length_take] at hlt; omega)] at hq
            exact h7 _ _ hq
          cases hi with
          | none =>
            simp only [Option.some.injEq] at hhi
            have hj : l.take j.toNat = l := List.take_of_length_le (by omega)
            rw [hj] at hrel
            exact .val ⟨_, _, h, hrun', hrel⟩
          | some z => exact .val ⟨_, _, h, hrun', hrel⟩
        · contradiction
    · contradiction
  · -- slice with a bound on its room
    rename_i t x lo hi mx hop
    split at h
    · rename_i T hT
      split at h
      · contradiction
      · rename_i l hl
        obtain ⟨u, hu, hTu⟩ := (hc.ty _ _ hT).slice
        have hx := asT_rel hl (ent_rel hR x)
        obtain ⟨A, n, c, xs, h2, h3, ⟨h4, hnil⟩, h5, h6⟩ := RelV_slice hx
        have h2' : a.eval x = .slice A n c := by simpa using h2
        split at h
        · rename_i i j m hlo hhi hmx
          replace h := bif_some h; obtain ⟨hb, h⟩ := h
          simp only [Bool.and_eq_true, decide_eq_true_eq] at hb
          obtain ⟨⟨⟨h0, h01⟩, h1⟩, hm⟩ := hb
          have bnd : ∀ (y : Operand) (q : Int) (m : Nat) (code : BoundsCode), asInt (ent st y) = some q → 0 ≤ q → q ≤ m → (Instr.sliceBound (a.eval y) m code).run P w = .ok q.toNat w := by
            intro y q m code hy hq0 hq1
            obtain ⟨k, hk⟩ := asInt_rel hy (ent_rel hR y)
            simp [Instr.sliceBound, asIntOf, hk, hq0, hq1]
          have hbd : (Instr.sliceBounds true n c (lo.map a.eval) (some (a.eval hi)) (some (a.eval mx))).run P w = .ok (i.toNat, j.toNat, m.toNat) w := by
            unfold Instr.sliceBounds
            have hm1 := bnd mx m c .slice3Acap hmx (by omega) (by omega)
            have hz := bnd hi j m.toNat .slice3B hhi (by omega) (by omega)
            cases lo with
            | none => simp only [Option.some.injEq] at hlo; subst hlo; simp [hm1, hz]
            | some y =>
              have := bnd y i j.toNat .slice3C hlo h0 (by omega)
              simp [hm1, hz, this]
          refine .val ⟨_, _, h, ?_, slice_rel (h2' ▸ hx) i.toNat j.toNat m.toNat (by omega) (by omega) (by omega) (by omega)⟩
          simp only [execOp, hop, Option.map_some]
          rw [Sem.run_bind]
          simp only [Instr.sliceAt, Instr.slice, Sem.run_bind, run_underlying hu, Result.andThen_ok, h2', hbd, hTu.sizeOf, Sem.run_pure]
        · contradiction
    · contradiction
  · -- call
    rename_i g args argTypes hop
    split at h
    · rename_i f cs hent
      split at h
      · rename_i k hk
        split at h
        · rename_i x hxs
          have e1 : args = #[x] := by apply Array.ext'; simpa using hxs
          subst e1
          have hg := ent_rel hR g
          rw [hent] at hg
          obtain ⟨vs, hgv, hcs⟩ := hg
          obtain rfl : vs = #[] := by apply Array.ext'; simpa [RelL] using hcs
          obtain ⟨F, e, h1, h2, h3, h4, h5, h6⟩ := hc.ext _ _ hk
          obtain ⟨e', v, hK, hrun, hrel⟩ := ext_rel (P := P) h6 (ent_rel hR x) h
          refine .val ⟨e', v, hK, ?_, hrel⟩
          simp only [execOp, hop, resolve, hgv, Deferred.ofValue, Sem.run_bind, Sem.run_pure, Result.andThen_ok, invoke]
          rw [Array.empty_append, Array.append_empty, run_callFunc_extern h1 h2 h3 h4 h5]
          simp only [List.map_toArray, List.map_cons, List.map_nil, hrun, Result.andThen_ok]
        · contradiction
      split at h
      · rename_i F R hF hRes
        split at h
        · rename_i l hl
          replace h := bif_some h; obtain ⟨hfree, h⟩ := h
          obtain ⟨x, hx, hk⟩ := Option.bind_eq_some_iff.1 h
          have hg := ent_rel hR g
          rw [hent] at hg
          obtain ⟨vs, hgv, hcs⟩ := hg
          obtain ⟨hfn, hname⟩ := hc.fns _ _ hF
          obtain ⟨b, hb⟩ := hbody _ _ hF
          have hco : Calls P f (args.map a.eval ++ vs) w fun e w' => ∃ v, e = .returned v ∧ RelEnt (Cst (Full O st.objs lam) w') [] (fun _ => undef) (resE R x) v ∧ Below w.heap.size w w' := by
            cases hsf : sliceFreeR R with
            | true =>
              rw [hsf] at hl hfree hx
              refine (hcall _ _ _ _ hx O w (args.map a.eval ++ vs) (fun g hg => (hR.out g hg).2) (hR.amb.mono (Cst_mono fun g hg => .inl hg))
                (by rw [Array.toList_append, Array.toList_map]; exact RelEs_append (args_rel hR hl) (RelEs_caps hfree (bor_caps hR hcs)))).mono fun e w' => ?_
              rintro ⟨v, rfl, h1, h2⟩
              exact ⟨v, rfl, resE_free hsf h1, h2⟩
            | false =>
              rw [hsf] at hl hfree hx
              exact hcall _ _ _ _ hx (Full O st.objs lam) w (args.map a.eval ++ vs) hR.full_lt hR.amb
                (by rw [Array.toList_append, Array.toList_map]; exact RelEs_append (args_rel hR hl) (RelEs_caps hfree hcs))
          refine .inr ⟨f, args.map a.eval ++ vs, ?_, hco.mono fun e w' => ?_⟩
          · simp only [execOp, hop, resolve, hgv, Deferred.ofValue, Sem.run_bind, Sem.run_pure, Result.andThen_ok, invoke]
            rw [Array.empty_append, run_callFunc hfn hname hb]
          · rintro ⟨v, rfl, h1, h2⟩
            exact ⟨_, v, rfl, hk, resE_rel h1, h2⟩
        · contradiction
      · contradiction
    · contradiction
  · contradiction
end
end Go.Proofs.YtlcphnmkkilefaaDoor.Ab
