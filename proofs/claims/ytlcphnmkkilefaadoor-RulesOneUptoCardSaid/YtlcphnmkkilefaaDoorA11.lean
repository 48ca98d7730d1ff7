/- The abstract interpreter, part 11: arguments as the statements read them. -/
import Derived.Test.YtlcphnmkkilefaaDoorA10
import Derived.Test.YtlcphnmkkilefaaDoorRows
import Derived.Carry
import Derived.JoinedCond
set_option linter.unusedVariables false
set_option linter.unusedSimpArgs false
namespace Go.Proofs.YtlcphnmkkilefaaDoor.Ab
open Go Go.RowKit

/-- Numbers are of their kinds. -/
def wfT : (T : Ty) → den T → Prop
  | .int k, x => (Lit.int k x).wf = true
  | .bool, _ => True
  | .str, _ => True
  | .slice e, l => ∀ x ∈ (l : List (den e)), wfT e x
  | .unit, _ => True
  | .f64, _ => True
  | .ptr _, _ => True
  | .map _, _ => True
  | .prod a b, x => wfT a x.1 ∧ wfT b x.2
def sumL {β : Type} (f : β → Nat) : List β → Nat
  | [] => 0
  | x :: r => f x + sumL f r
/-- How many values and letters. -/
def bulkT : (T : Ty) → den T → Nat
  | .int _, _ => 1
  | .bool, _ => 1
  | .str, s => ByteArray.size s + 1
  | .slice e, l => sumL (bulkT e) l + 1
  | .unit, _ => 0
  | .f64, _ => 0
  | .ptr _, _ => 0
  | .map _, _ => 0
  | .prod a b, x => bulkT a x.1 + bulkT b x.2
/-- Types of arguments. -/
def argT : Ty → Bool
  | .f64 => false
  | .ptr _ => false
  | .map _ => false
  | .slice e => argT e
  | .prod a b => argT a && argT b
  | _ => true

section
variable {H : Type} {enc : TypeId × Value → H} {P : Program} {w : World} {spare : Nat → Bool} {held : Bool}
abbrev Here (w : World) : Cells := fun a u => w.cell? a = some u

theorem bulkAll_append (l r : List (DataW H)) : Rows.uptoBulkAll (l ++ r) = Rows.uptoBulkAll l + Rows.uptoBulkAll r := by
  induction l with
  | nil => simp [Rows.uptoBulkAll]
  | cons x l ih => simp only [List.cons_append, Rows.uptoBulkAll, ih]; omega

theorem cells_some {w : World} {b : Nat} {a : Addr} {n : Nat} {cs : List Value} (h : w.cells? b a n = some cs) : cs.length = n ∧ ∀ j u, cs[j]? = some u → w.cell? (a.add j) = some u := by
  unfold World.cells? at h
  split at h
  · have hl := mapM_some_length h
    rw [List.length_range] at hl
    refine ⟨hl, fun j u hj => ?_⟩
    have hlt := (List.getElem?_eq_some_iff.1 hj).1
    have hjn : j < n := by omega
    rw [mapM_some_get h j j (by simp [hjn])]; exact hj
  · contradiction

theorem open_elems {e : TypeId} {T : Ty} {fuel : Nat} (IH : ∀ {cs d ps}, DataW.trod enc P w 0 spare held fuel e cs = some (d, ps) → ∃ x : den T, Rd (Here w) T x cs ∧ wfT T x ∧ bulkT T x ≤ Rows.uptoBulk d) (hs : P.cellsOf e = T.size) {a : Addr} :
    ∀ (elems : List (DataW H × List MemPlace)) (k : Nat), (∀ i, i < elems.length → (w.cells? 0 (a.add ((k + i) * P.cellsOf e)) (P.cellsOf e)).bind (DataW.trod enc P w 0 spare held fuel e) = elems[i]?) →
      ∃ (l : List (den T)) (xs : List Value), l.length = elems.length ∧ RdL (Rd (Here w) T) l xs ∧ (∀ x ∈ l, wfT T x) ∧ sumL (bulkT T) l ≤ Rows.uptoBulkAll (elems.map (·.1)) ∧ ∀ j u, xs[j]? = some u → w.cell? (a.add (k * T.size + j)) = some u
  | [], k, h => ⟨[], [], rfl, rfl, fun x hx => by simp at hx, by simp [sumL, Rows.uptoBulkAll], fun j u hj => by simp at hj⟩
  | (d, ps) :: r, k, h => by
    have h0 := h 0 (by simp)
    simp only [Nat.add_zero, List.getElem?_cons_zero] at h0
    obtain ⟨cs, hcs, hy⟩ := Option.bind_eq_some_iff.1 h0
    obtain ⟨x, h1, h2, h3⟩ := IH hy
    obtain ⟨l, xs, h4, h5, h6, h7, h8⟩ := open_elems IH hs r (k + 1) (fun i hi => by have := h (i + 1) (by simpa using hi); rw [show k + 1 + i = k + (i + 1) by omega]; simpa using this)
    obtain ⟨h9, h10⟩ := cells_some hcs
    rw [hs] at h9 h10
    refine ⟨x :: l, cs ++ xs, by simp [h4], ⟨cs, xs, rfl, h1, h5⟩, fun z hz => ?_, ?_, fun j u hj => ?_⟩
    · rcases List.mem_cons.1 hz with rfl | hz
      · exact h2
      · exact h6 z hz
    · simp only [sumL, List.map_cons, Rows.uptoBulkAll]; omega
    · rcases Nat.lt_or_ge j cs.length with hj1 | hj1
      · rw [List.getElem?_append_left hj1] at hj
        rw [← add_add]; exact h10 j u hj
      · rw [List.getElem?_append_right hj1] at hj
        have := h8 _ _ hj
        rw [show (k + 1) * T.size + (j - cs.length) = k * T.size + j by rw [Nat.add_mul, Nat.one_mul]; omega] at this
        exact this

theorem open_fields {fuel : Nat} (IH : ∀ {T' : Ty} {t cs d ps}, argT T' = true → TOk P T' t → DataW.trod enc P w 0 spare held fuel t cs = some (d, ps) → ∃ x : den T', Rd (Here w) T' x cs ∧ wfT T' x ∧ bulkT T' x ≤ Rows.uptoBulk d) : ∀ {T : Ty}
    {fs : List Field} {off : Nat} {cs : List Value} {parts : List (DataW H × List MemPlace)}, argT T = true → T.isS = true → (tOk P T).2 fs off = true → off + T.size = cs.length → parts.length = fs.length →
      (∀ (i : Nat) (f : Field), fs[i]? = some f → DataW.trod enc P w 0 spare held fuel f.type ((cs.drop f.offset).take (P.cellsOf f.type)) = parts[i]?) → ∃ x : den T, Rd (Here w) T x (cs.drop off) ∧ wfT T x ∧ bulkT T x ≤ Rows.uptoBulkAll (parts.map (·.1))
  | .unit, fs, off, cs, parts, _, _, hok, hl, hp, h => by
    refine ⟨(), ?_, trivial, Nat.zero_le _⟩
    simp only [Ty.size] at hl
    exact List.drop_eq_nil_of_le (by omega)
  | .prod A B, fs, off, cs, parts, ha, _, hok, hl, hp, h => by
    simp only [argT, Bool.and_eq_true] at ha
    unfold tOk at hok
    dsimp only at hok
    split at hok
    · contradiction
    · rename_i f r
      simp only [Bool.and_eq_true] at hok
      obtain ⟨⟨⟨⟨h1, h2⟩, h3⟩, h4⟩, h5⟩ := hok
      have h1 : f.offset = off := by simpa using h1
      have h4 : TOk P A f.type := h4
      obtain ⟨i, z, hi, hsz, _⟩ := base_info h4.base
      have hcell : P.cellsOf f.type = A.size := by simp [Program.cellsOf, hi, hsz]
      cases parts with
      | nil => simp at hp
      | cons y q =>
        obtain ⟨d, ps⟩ := y
        have hy := h 0 f rfl
        simp only [List.getElem?_cons_zero] at hy
        rw [h1, hcell] at hy
        simp only [Ty.size] at hl
        obtain ⟨x, h6, h7, h8⟩ := IH ha.1 h4 hy
        have hBs : B.isS = true := by
          cases B with
          | unit => rfl
          | prod _ _ => rfl
          | int _ => simp [tOk] at h5
          | bool => simp [tOk] at h5
          | str => simp [tOk] at h5
          | slice _ => simp [tOk] at h5
          | f64 => simp [tOk] at h5
          | ptr _ => simp [tOk] at h5
          | map _ => simp [tOk] at h5
        obtain ⟨y, h9, h10, h11⟩ := open_fields IH (T := B) (off := off + A.size) (cs := cs) (parts := q) ha.2 hBs h5 (by omega) (by simpa using hp) (fun i g hg => by have := h (i + 1) g (by simpa using hg); simpa using this)
        refine ⟨(x, y), ⟨(cs.drop off).take A.size, cs.drop (off + A.size), ?_, h6, h9⟩, ⟨h7, h10⟩, ?_⟩
        · rw [← List.drop_drop, List.take_append_drop]
        · simp only [bulkT, List.map_cons, Rows.uptoBulkAll]; omega
  | .int _, _, _, _, _, _, hs, _, _, _, _ => by simp [Ty.isS] at hs
  | .bool, _, _, _, _, _, hs, _, _, _, _ => by simp [Ty.isS] at hs
  | .str, _, _, _, _, _, hs, _, _, _, _ => by simp [Ty.isS] at hs
  | .slice _, _, _, _, _, _, hs, _, _, _, _ => by simp [Ty.isS] at hs
  | .f64, _, _, _, _, _, hs, _, _, _, _ => by simp [Ty.isS] at hs
  | .ptr _, _, _, _, _, _, hs, _, _, _, _ => by simp [Ty.isS] at hs
  | .map _, _, _, _, _, _, hs, _, _, _, _ => by simp [Ty.isS] at hs

/-- What a reading of an argument tells. -/
theorem open_t : ∀ (fuel : Nat) {T : Ty} {t : TypeId} {cs : List Value} {d : DataW H} {ps : List MemPlace}, argT T = true → TOk P T t → DataW.trod enc P w 0 spare held fuel t cs = some (d, ps) → ∃ x : den T, Rd (Here w) T x cs ∧ wfT T x ∧ bulkT T x ≤ Rows.uptoBulk d
  | 0, T, t, cs, d, ps, ha, ht, h => by simp [DataW.trod] at h
  | fuel + 1, T, t, cs, d, ps, ha, ht, h => by
    have struct : T.isS = true → ∃ x : den T, Rd (Here w) T x cs ∧ wfT T x ∧ bulkT T x ≤ Rows.uptoBulk d := by
      intro hs
      obtain ⟨fs, hu, _, hok⟩ := ht.fields hs
      obtain ⟨i, z, hi, hsz, _⟩ := base_info ht.base
      have hcell : P.cellsOf t = T.size := by simp [Program.cellsOf, hi, hsz]
      obtain ⟨xs, n, hn, hx, hlen, hxl, hall⟩ := DataW.trod_struct hu h
      have hn : fuel = n := by omega
      subst hn
      simp only [Prod.mk.injEq] at hx
      obtain ⟨rfl, rfl⟩ := hx
      obtain ⟨x, h1, h2, h3⟩ := open_fields (fuel := fuel) (fun ha' ht' h' => open_t fuel ha' ht' h') ha hs hok (by rw [hlen, hcell]; omega) (by simpa using hxl) (fun i f hf => hall i f (by simpa using hf))
      exact ⟨x, by simpa using h1, h2, by simp only [Rows.uptoBulk]; omega⟩
    cases T with
    | int k =>
      obtain ⟨n, rfl, h2, h3⟩ := DataW.trod_int ht.int h
      simp only [Prod.mk.injEq] at h2
      obtain ⟨rfl, rfl⟩ := h2
      exact ⟨n, rfl, h3, by simp [bulkT, Rows.uptoBulk]⟩
    | bool =>
      obtain ⟨b, rfl, h2⟩ := DataW.trod_bool ht.bool h
      simp only [Prod.mk.injEq] at h2
      obtain ⟨rfl, rfl⟩ := h2
      exact ⟨b, rfl, trivial, by simp [bulkT, Rows.uptoBulk]⟩
    | str =>
      obtain ⟨s, rfl, h2, h3⟩ := DataW.trod_string ht.str h
      simp only [Prod.mk.injEq] at h2
      obtain ⟨rfl, rfl⟩ := h2
      exact ⟨s, rfl, trivial, by simp [bulkT, Rows.uptoBulk]⟩
    | slice e =>
      obtain ⟨u, hu, hTu⟩ := ht.slice
      obtain ⟨i, z, hi, hsz, _⟩ := base_info hTu.base
      have hcell : P.cellsOf u = e.size := by simp [Program.cellsOf, hi, hsz]
      rcases DataW.trod_slice hu h with ⟨rfl, hx⟩ | ⟨a, len, cap, elems, rest, n, hn, rfl, hx, _, hlc, _, hel, hat, _⟩
      · simp only [Prod.mk.injEq] at hx
        obtain ⟨rfl, rfl⟩ := hx
        exact ⟨[], ⟨none, 0, 0, [], rfl, rfl, ⟨Nat.le_refl _, fun _ => rfl⟩, rfl, fun h => absurd h (by omega)⟩, fun x hx => by simp at hx, by simp [bulkT, sumL, Rows.uptoBulk]⟩
      · have hn : fuel = n := by omega
        subst hn
        simp only [Prod.mk.injEq] at hx
        obtain ⟨rfl, _⟩ := hx
        obtain ⟨l, xs, h1, h2, h3, h4, h5⟩ := open_elems (fuel := fuel) (fun h' => open_t fuel (T := e) (by simpa [argT] using ha) hTu h') hcell elems 0 (fun i hi => by rw [Nat.zero_add]; exact hat i (by omega))
        refine ⟨l, ⟨some a, len, cap, xs, rfl, by omega, ⟨hlc, fun h => by cases h⟩, h2, fun _ => ⟨a, rfl, fun j v hj => ?_⟩⟩, h3, ?_⟩
        · have := h5 j v hj
          rwa [Nat.zero_mul, Nat.zero_add] at this
        · simp only [bulkT, Rows.uptoBulk]; omega
    | f64 => simp [argT] at ha
    | ptr e => simp [argT] at ha
    | map e => simp [argT] at ha
    | unit => exact struct rfl
    | prod A B => exact struct rfl

/-- An argument opened. -/
theorem open_arg {T : Ty} {t : TypeId} {v : Value} {d : DataW H} {ps : List MemPlace} {base : Nat} (ha : argT T = true) (ht : TOk P T t) (hval : Value.okWide P w .any base t v) (h : DataW.Trod enc P w 0 spare held t v d ps) :
    ∃ x : den T, RelV (Cst (fun _ => False) w) T x v ∧ wfT T x ∧ bulkT T x ≤ Rows.uptoBulk d := by
  obtain ⟨fuel, hf⟩ := h
  obtain ⟨x, h1, h2, h3⟩ := open_t fuel ha ht hf
  refine ⟨x, ?_, h2, h3⟩
  have h1' : Rd (Cst (fun _ => False) w) T x v.cells.toList := Rd_mono (fun a u hc => ⟨fun h => h, look_cell hc⟩) h1
  unfold RelV
  cases hs : T.isS with
  | true =>
    rw [if_pos rfl]
    obtain ⟨fs, hu, _⟩ := ht.fields hs
    unfold Value.okWide at hval
    rw [hu] at hval
    obtain ⟨cs, rfl, _⟩ := hval
    exact ⟨cs, rfl, h1'⟩
  | false =>
    rw [if_neg (by simp)]
    obtain ⟨u, e1, hu⟩ := Rd_cell hs h1'
    have hv : ∀ cs, v ≠ .agg cs := by
      rintro cs rfl
      unfold Value.okWide Cell.okWide Cell.ok at hval
      cases T with
      | int k => rw [ht.int] at hval; simp at hval
      | bool => rw [ht.bool] at hval; simp at hval
      | str => rw [ht.str] at hval; simp at hval
      | slice e => obtain ⟨x, hx, _⟩ := ht.slice; rw [hx] at hval; simp at hval
      | f64 => simp [argT] at ha
      | ptr e => simp [argT] at ha
      | map e => simp [argT] at ha
      | unit => simp [Ty.isS] at hs
      | prod _ _ => simp [Ty.isS] at hs
    have hc : v.cells = #[v] := by cases v <;> first | rfl | exact absurd rfl (hv _)
    rw [hc] at h1'
    exact h1'
end
end Go.Proofs.YtlcphnmkkilefaaDoor.Ab
