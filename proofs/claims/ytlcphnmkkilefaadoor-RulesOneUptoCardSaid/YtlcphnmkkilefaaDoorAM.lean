/- What schema.New's map tells. -/
import Derived.Test.YtlcphnmkkilefaaDoorAL0
set_option linter.unusedVariables false
set_option linter.unusedSimpArgs false
namespace Go.Proofs.YtlcphnmkkilefaaDoor.Ab
open Go Go.RowKit
def encK (x : den KeyT) : List Value := [.int .i64 x.1, .bool x.2.1, .int .u8 x.2.2.1, .bool x.2.2.2.1, .bool x.2.2.2.2.1, .int .i64 x.2.2.2.2.2.1]
theorem Rd_key {C : Cells} {x : den KeyT} {cs : List Value} : Rd C KeyT x cs ↔ cs = encK x := by
  obtain ⟨a, b, c, d, e, f, u⟩ := x
  constructor
  · intro h
    obtain ⟨p, q, rfl, rfl, p, q, rfl, rfl, p, q, rfl, rfl, p, q, rfl, rfl, p, q, rfl, rfl, p, q, rfl, rfl, rfl⟩ := h
    rfl
  · rintro rfl
    exact ⟨[_], _, rfl, rfl, [_], _, rfl, rfl, [_], _, rfl, rfl, [_], _, rfl, rfl, [_], _, rfl, rfl, [_], [], rfl, rfl, rfl⟩
theorem RelV_key {C : Cells} {x : den KeyT} {v : Value} : RelV C KeyT x v ↔ v = .agg (encK x).toArray := by
  unfold RelV
  rw [if_pos (by rfl)]
  constructor
  · rintro ⟨cs, rfl, h⟩
    rw [← Rd_key.1 h]
  · rintro rfl
    exact ⟨_, rfl, Rd_key.2 rfl⟩
theorem run_update_new {P : Program} {t kt ut : TypeId} (hu : P.underlying t = some (.map kt ut)) (hk : P.underlying kt = some (.int .i64)) {W : World} {m : Nat} {es : Array MapEntry} {clk : Nat} (h : W.heap[m]? = some (.map es clk)) {k : Int}
    (hn : Instr.findNow (.int .i64) (.int .i64 k) es.toList 0 = some none) (v : Value) :
    (Instr.mapUpdate t (.map (some m)) (.int .i64 k) v).run P W = .ok () { W with heap := W.heap.setIfInBounds m (.map (es.push { key := .int .i64 k, val := v, born := clk }) (clk + 1)) } := by
  have hck : ∀ e, (Instr.checkKey e 10000 kt (.int .i64 k)).run P W = .ok () W := by
    intro e
    have : ∀ n, (Instr.checkKey e (n + 1) kt (.int .i64 k)).run P W = .ok () W := by
      intro n
      unfold Instr.checkKey
      simp [run_underlying hk]
    exact this 9999
  have fk : (Instr.findKey kt (.int .i64 k) es.toList).run P W = .ok none W := by
    simp [Instr.findKey, run_underlying hk, hn]
  have hg : (getObj m).run P W = .ok (.map es clk) W := by
    simp [getObj, Sem.run, h]
  simp [Instr.mapUpdate, run_underlying hu, hg, hck, fk]
  simp [setObj, Sem.run, h]
theorem findM_any {V : Ty} (k : Int) : ∀ (l : List (Int × den V)), (findM V k l).2 = l.any fun p => decide ((p.1 : Int) = k)
  | [] => rfl
  | p :: l => by
    simp only [findM, List.any_cons]
    by_cases g : k = p.1
    · simp [g]
    · have g' : ¬ p.1 = k := fun h => g h.symm
      simp [g, g', findM_any k l]
theorem key_look {P : Program} {t : TypeId} (hT : TOk P (.map KeyT) t) (l : List (den KeyT)) (es : Array MapEntry) (clk : Nat) (i : Int) (hes : es.toList.map (fun e => (e.key, e.val)) = l.map (fun x => (Value.int .i64 x.1, Value.agg (encK x).toArray))) :
    ∃ (y : den KeyT) (ok : Bool), (ok = l.any fun x => decide ((x.1 : Int) = i)) ∧ (∀ (W : World) (m : Nat), W.heap[m]? = some (.map es clk) → (Instr.lookup t (.map (some m)) (.int .i64 i) true).run P W = .ok (.tuple #[.agg (encK y).toArray, .bool ok]) W) ∧
        (ok = false → ∀ (W : World) (m : Nat) (v : Value), W.heap[m]? = some (.map es clk) → (Instr.mapUpdate t (.map (some m)) (.int .i64 i) v).run P W = .ok () { W with heap := W.heap.setIfInBounds m (.map (es.push { key := .int .i64 i, val := v, born := clk }) (clk + 1)) }) := by
  have hrd : ∀ C : Cells, RdM true (Rd C KeyT) (l.map fun x => ((x.1 : Int), x)) (es.toList.map fun e => Value.tuple #[e.key, e.val]) := by
    intro C
    have hm : es.toList.map (fun e => Value.tuple #[e.key, e.val]) = l.map (fun x => Value.tuple #[.int .i64 x.1, .agg (encK x).toArray]) := by
      have := congrArg (List.map fun p : Value × Value => Value.tuple #[p.1, p.2]) hes
      simpa [List.map_map, Function.comp_def] using this
    rw [hm]
    clear hm hes
    induction l with
    | nil => rfl
    | cons x l ih => exact ⟨_, _, rfl, ⟨rfl, Rd_key.2 rfl⟩, ih⟩
  refine ⟨(findM KeyT i (l.map fun x => ((x.1 : Int), x))).1, (findM KeyT i (l.map fun x => ((x.1 : Int), x))).2, ?_, ?_, ?_⟩
  · rw [findM_any, List.any_map]; rfl
  · intro W m hm
    have hv : RelV (Cst (fun _ => False) W) (.map KeyT) (l.map fun x => ((x.1 : Int), x)) (.map (some m)) := by
      unfold RelV
      rw [if_neg (by simp [Ty.isS])]
      refine .inr ⟨m, _, rfl, hrd _, fun h => h, ?_⟩
      simp only [look, mapV, hm, Option.some.injEq, Value.tuple.injEq]
      apply Array.toList_inj.1
      simp
    obtain ⟨u, h1, vs, rfl, v1, r1, h3, h4, v2, r2, h5, h6, h7⟩ := run_lookup_rel (lam := fun _ => undef) (objs := []) hT hv i
    rw [h1]
    have h4' := RelV_key.1 h4
    have h6' := RelV_bool h6
    subst h4' h6'
    have : vs = #[.agg (encK (findM KeyT i (l.map fun x => ((x.1 : Int), x))).1).toArray, .bool (findM KeyT i (l.map fun x => ((x.1 : Int), x))).2] := by
      apply Array.toList_inj.1
      rw [h3, h5, h7]
    rw [this]
  · intro hok W m v hm
    obtain ⟨kt, ut, hu, hk, hV⟩ := hT.map
    refine run_update_new hu hk hm ?_ v
    rcases findNow_rel (C := fun _ _ => True) (V := KeyT) i 0 (hrd _) rfl with ⟨h, _⟩ | ⟨j, u, _, h, _⟩
    · exact h
    · rw [hok] at h; cases h
end Go.Proofs.YtlcphnmkkilefaaDoor.Ab
