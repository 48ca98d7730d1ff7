/- schema.New: what the interpreter is told of it is so. -/
import Derived.Test.YtlcphnmkkilefaaDoorNW
import Derived.Test.YtlcphnmkkilefaaDoorAR
import Derived.Test.YtlcphnmkkilefaaDoorAS0
import Derived.Test.YtlcphnmkkilefaaDoorAK
import Derived.Test.YtlcphnmkkilefaaDoorG0
import Derived.WalkKit
import Derived.WalkSpells
import Derived.Lib.Walk
import Derived.KernelRfl
set_option linter.unusedVariables false
set_option linter.unusedSimpArgs false
set_option maxRecDepth 100000
namespace Go.Proofs.YtlcphnmkkilefaaDoor.Ab
open Go Go.RowKit Go.Lib Go.Shelf Go.Sort Go.Proofs
noncomputable def cfgN : Cfg := { cfg with fns := [(15, Tryd.f15), (16, Tryd.f16)], ext := [] }
theorem cfgN_fn : ∀ p ∈ cfgN.fns, Tryd.prog.funcs[p.1]? = some p.2 := by
  intro p hp
  simp only [cfgN, List.mem_cons, List.not_mem_nil, or_false] at hp
  rcases hp with rfl | rfl
  · exact Tryd.func15
  · exact Tryd.func16
theorem cfgN_ok : CfgOk Tryd.prog cfgN ∧ ∀ f F, lk f cfgN.fns = some F → ∃ b, F.body = some b :=
  cfgOk_of (by kernel_rfl) (by kernel_rfl) (by kernel_rfl) (by kernel_rfl) (by kernel_rfl) cfgN_fn (by kernel_rfl) (fun p hp => by simp [cfgN] at hp)
set_option maxHeartbeats 1000000 in
theorem may_walk (a c f : Int) (b d e r : Bool) (hr : r = (decide (1 ≤ a) && decide (a ≤ 1000) && decide (1 ≤ c) && decide (c ≤ 4) && (bif b then !e && decide (0 ≤ f) && decide (f ≤ 8) else decide (f = 0)))) (W : World) :
    Calls Tryd.prog 16 #[.agg #[.int .i64 a, .bool b, .int .u8 c, .bool d, .bool e, .int .i64 f]] W fun ex w' => ex = .returned (.bool r) ∧ Below W.heap.size W w' := by
  replace hr := PLift.up hr
  go_enter Tryd.func16, Tryd.ntmps16
  go_wp2
  all_goals go_ret
  all_goals refine ⟨congrArg (fun b => Ending.returned (Value.bool b)) ?_, (RowKit.Below.refl _ _).alloc (Nat.le_refl _) _⟩
  all_goals replace hr := hr.down
  all_goals rw [hr, Bool.eq_iff_iff]
  all_goals cases b <;> cases e <;> first | contradiction | skip
  all_goals simp
  all_goals try omega
theorem may_ok (x : den KeyT) (W : World) : Calls Tryd.prog 16 #[.agg (encK x).toArray] W fun e w' => e = .returned (.bool (mayKey x)) ∧ Below W.heap.size W w' := by
  obtain ⟨a, b, c, d, e, f, u⟩ := x
  exact may_walk a c f b d e _ rfl W
noncomputable def BBc : Code := (Tryd.f15.body).getD .skip
theorem cl_ok : ∀ n args ob S (x : denS S), gClone 49 KeyT 24 n args ob S = some x → ICallOk Tryd.prog Tryd.f15.ntmps 15 args ob S x :=
  clone_ok cfgN_ok (F := Tryd.f15) (t := 22) (id1 := regId (cat BBc [1, 0, 0])) (o1 := regOp (cat BBc [1, 0, 0]) 0) (o2 := regOp (cat BBc [1, 0, 0]) 1) (r0 := cat BBc [0]) (c2 := cat BBc [1, 0, 1, 0]) (c3 := cat BBc [1, 1])
    (by kernel_rfl) (by kernel_rfl) (by kernel_rfl) ⟨by kernel_rfl, by kernel_rfl, by kernel_rfl⟩ ⟨by kernel_rfl, by kernel_rfl, by kernel_rfl⟩ (Nat.le_of_ble_eq_true (by kernel_rfl))
    (fun l => runTo cfgN 15 (cat BBc [0]) (stI Tryd.f15 [.s (.val (.slice KeyT) l)] [])) (fun l K => by kernel_rfl) (fun l => by kernel_rfl) (fun l => Nat.le_of_ble_eq_true (by kernel_rfl)) (fun l => by kernel_rfl) (fun l => by kernel_rfl)
def CPn (w : World) (n : Nat) (l : List (den KeyT)) (RA : Option Addr) (rc : Nat) (w1 : World) : Prop := Below w.heap.size w w1 ∧ RowAt w1 RA n l ∧ (∀ a, RA = some a → w.heap.size ≤ a.block) ∧ n ≤ rc ∧ (RA = none → rc = 0)
theorem cl_run (O : Nat → Prop) (w : World) (hO : ∀ g, O g → g < w.heap.size) (hA : AmbOk (Cst O w)) (l : List (den KeyT)) (v : Value) (hv : RelV (Cst O w) (.slice KeyT) l v) (hn : l.length ≤ 64) :
    Calls Tryd.prog 15 #[v] w fun e w' => ∃ RA rc, CPn w l.length l RA rc w' ∧ e = .returned (.slice RA l.length rc) := by
  have hg : gClone 49 KeyT 24 0 [.s (.val (.slice KeyT) l)] [] ⟨.row 49 KeyT, []⟩ = some (l, ()) := by
    have : decide ((0 + l.length) * 24 ≤ 140737488355328) = true := decide_eq_true (by omega)
    simp only [gClone, castT, dite_true]
    rw [this]
    rfl
  have hno : ∀ g, ¬ Owned [] (fun _ => undef) g := fun g h => by
    obtain ⟨s, o, h1, _⟩ := h
    simp [oget, lk] at h1
  refine (cl_ok 0 _ _ _ _ hg O w #[v] (fun _ => undef) (fun g h => ⟨hO g h, hno g⟩) ⟨fun s o h => by simp [oget, lk] at h, fun s s' o o' g h => by simp [oget, lk] at h⟩ (hA.mono (Cst_mono fun g h => h.elim id fun h => absurd h (hno g))) ⟨v, [], rfl, RelV_mono (Cst_mono fun g h => h.elim id fun h => absurd h (hno g)) hv, rfl⟩).mono ?_
  rintro e w' ⟨v', lam', rfl, hb, _, hm, hr⟩
  have hbel : Below w.heap.size w w' := ⟨hb.os, hb.tape, hb.output, hb.size, fun k hk => hb.block k hk (fun h => by
    rcases h with h | h
    · exact hno _ h
    · omega)⟩
  obtain ⟨xs, ⟨hrow, hfr⟩, hxs⟩ := hm.obj Tryd.f15.ntmps (.arr 49 KeyT l) (by rfl)
  have hr' : lam' Tryd.f15.ntmps = v' := hr
  rw [hr'] at hrow hfr
  have hxs' := (RdL_flat l xs).1 hxs
  obtain ⟨hlen, hrow⟩ := hrow
  rcases hrow with ⟨rfl, h0⟩ | ⟨g, cap, cur, rfl, _, hh, hcap, hmax, hsz, htake⟩
  · refine ⟨none, 0, ⟨hbel, .inl ⟨rfl, h0⟩, (fun a h => by cases h), by omega, fun _ => rfl⟩, ?_⟩
    rw [h0]
  · refine ⟨some ⟨g, 0, none⟩, cap, ⟨hbel, .inr ⟨g, rfl, (Array.getElem?_eq_some_iff.1 hh).1, fun j u hj => ⟨?_, ?_⟩⟩, ?_, hcap, fun h => by cases h⟩, rfl⟩
    · rw [cell_of_row w' g j cur 49 (0, 0) hh]
      rw [← hxs', ← htake, List.getElem?_take] at hj
      split at hj
      · simpa using hj
      · cases hj
    · exact frozen_of_row w' g j cur 49 hh
    · intro a ha
      cases ha
      rcases hfr g rfl with h | h
      · exact absurd h (hno g)
      · exact h
theorem none_rel {O : Nat → Prop} {w : World} : RelEnt (Cst O w) [] (fun _ => undef) (resE (.two (.ptr SchemaT) (.int .i64)) (none, 3)) (.tuple #[.pointer none, .int .i64 3]) := by
  refine ⟨_, rfl, _, _, rfl, ?_, _, _, rfl, ?_, rfl⟩
  · show RelV _ _ _ _
    unfold RelV
    rw [if_neg (by simp [Ty.isS])]
    rfl
  · show RelV _ _ _ _
    unfold RelV
    rw [if_neg (by simp [Ty.isS])]
    rfl
theorem sortAt (n rc : Nat) (RA : Option Addr) (l : List (den KeyT)) (hn : l.length = n) (hn2 : n ≤ 64) (W : World) (h : RowAt W RA n l) :
    Calls Tryd.prog 17 #[.slice RA n rc, .func (.func 18) #[] #[]] W fun e w' => e = .returned (.tuple #[]) ∧ ∃ l' : List (den KeyT), l'.Perm l ∧ l'.Pairwise (fun a b => (a.1 : Int) ≤ b.1) ∧ BelN (fun b => ∃ a, RA = some a ∧ a.block = b) W w' ∧ RowAt w' RA n l' :=
  sort_ok sortL (fun w => (cfgN_ok.1.ty 49 KeyT (by kernel_rfl)).isAgg w) (fun w => (cfgN_ok.1.ty 49 KeyT (by kernel_rfl)).sizeOf w) 18 (enters_of Tryd.func18 (by kernel_rfl) rfl) clo_walk n rc RA l hn hn2 W h
theorem RdM_keys {C : Cells} : ∀ l : List (den KeyT), RdM KeyT.isS (Rd C KeyT) (l.map fun k => ((k.1 : Int), k)) (l.map fun x => Value.tuple #[.int .i64 x.1, .agg (encK x).toArray])
  | [] => rfl
  | x :: l => ⟨_, _, rfl, ⟨rfl, Rd_key.2 rfl⟩, RdM_keys l⟩
theorem new_ok (l : List (den KeyT)) : CallOk Tryd.prog 6 [.s (.val (.slice KeyT) l)] (.two (.ptr SchemaT) (.int .i64)) (newS l) := by
  intro O w cargs hO hA hargs
  obtain ⟨v, r, hc, hv, hr⟩ := hargs
  have hr' : r = [] := hr
  subst hr'
  have hc' : cargs = #[v] := Array.toList_inj.1 hc
  subst hc'
  replace hv : RelV (Cst O w) (.slice KeyT) l v := hv
  obtain ⟨A, n, c, xs, e1, e2, ⟨e3, e4⟩, e5, e6⟩ := RelV_slice hv
  have e1' : v = .slice A n c := by simpa using e1
  subst e1'
  subst e2
  by_cases hn : 64 < l.length
  · refine (new_big A _ c w hn).mono ?_
    rintro e w' ⟨rfl, rfl⟩
    exact ⟨_, rfl, by rw [newS_big hn]; exact none_rel, Below.refl _ _⟩
  · have hn' : l.length ≤ 64 := by omega
    have hx := (RdL_flat l xs).1 e5
    obtain ⟨kt, ut, hmt⟩ : ∃ t, lk 54 cfgN.ty = some t ∧ t = Ty.map KeyT := ⟨_, by kernel_rfl, rfl⟩
    have hT : TOk Tryd.prog (.map KeyT) 54 := cfgN_ok.1.ty _ _ (by kernel_rfl)
    refine (new_small A l.length c l w (CPn w l.length l) hn' rfl (fun RA rc w1 W w' => ∃ l' : List (den KeyT), l'.Perm l ∧ l'.Pairwise (fun a b => (a.1 : Int) ≤ b.1) ∧ BelN (fun b => ∃ a, RA = some a ∧ a.block = b) W w' ∧ RowAt w' RA l.length l')
      ?_ (fun k es clk hk hes => key_look hT _ es clk _ hes) may_ok ?_ (cl_run O w hO hA l _ hv hn')).mono ?_
    · rintro RA rc w1 ⟨hb1, _⟩ k hk
      obtain ⟨ad, rfl, had⟩ := e6 (by omega)
      have h1 : ∀ k, k < l.length → ∀ j u, (encK (l.getD k (dflt KeyT)))[j]? = some u → w.cell? (ad.add (k * 6 + j)) = some u := by
        intro k hk j u hj
        have hj6 : j < 6 := (List.getElem?_eq_some_iff.1 hj).1
        have h2 := had (k * 6 + j) u (by rw [hx, flat_get l k j hj6 hk]; exact hj)
        refine h2.cell ?_
        have : u ∈ encK (l.getD k (dflt KeyT)) := List.mem_of_getElem? hj
        simp only [encK, List.mem_cons, List.not_mem_nil, or_false] at this
        rcases this with rfl | rfl | rfl | rfl | rfl | rfl <;> rfl
      have h0 := h1 0 (by omega) 0 _ rfl
      have hbl : (ad.add (0 * 6 + 0)).block < w.heap.size := look_lt (look_cell h0)
      rw [addr_block] at hbl
      obtain ⟨b, off, sp⟩ := ad
      cases sp with
      | none =>
        refine ⟨b, off, rfl, Nat.lt_of_lt_of_le hbl hb1.size, fun j u hj => ?_⟩
        rw [World.cell?_of_block (w := w) (hb1.block b hbl)]
        have := h1 k hk j u hj
        rw [Addr.add_lit] at this
        exact this
      | some q =>
        exfalso
        unfold World.cell? at h0
        split at h0
        · simp [Addr.add] at h0
        · contradiction
    · rintro RA rc w1 ⟨hb1, hrow, hfr, _⟩ W hW
      refine sortAt l.length rc RA l rfl hn' W ?_
      rcases hrow with h | ⟨g, rfl, hg, hcell⟩
      · exact .inl h
      · exact .inr ⟨g, rfl, Nat.lt_of_lt_of_le hg hW.size, fun j u hj => by
          rw [World.cell?_of_block (w := w1) (hW.block g hg), World.frozen?_of_block (w := w1) (hW.block g hg)]
          exact hcell j u hj⟩
    · rintro e w' ⟨RA, rc, w1, ⟨hb1, hrow, hfr, hle, hrc⟩, ⟨⟨i, hi, hbad⟩, rfl, hb2⟩ | ⟨hall, rfl, W, es, clk, hbW, hg, hm, hes, l', hp, hs, hbn, hrow'⟩⟩
      · have hk : keysOk l = false := by
          cases hk : keysOk l with
          | false => rfl
          | true => rw [(okAt_iff l).2 ((keysOk_iff l).1 hk) i hi] at hbad; cases hbad
        exact ⟨_, rfl, by rw [newS_bad hk]; exact none_rel, hb1.trans (hb2.mono hb1.size)⟩
      · have hsp := (okAt_iff l).1 hall
        have hk : keysOk l = true := (keysOk_iff l).2 hsp
        have hl' : l' = sortK l := sortK_unique hsp.2 hp hs
        subst hl'
        have hRA : ∀ a, RA = some a → w.heap.size ≤ a.block ∧ a.block < w1.heap.size := by
          intro a ha
          refine ⟨hfr a ha, ?_⟩
          rcases hrow with ⟨h, _⟩ | ⟨g, h, hg, _⟩
          · rw [h] at ha; cases ha
          · rw [h] at ha; cases ha; exact hg
        have hWlt : w1.heap.size + 1 < W.heap.size := (Array.getElem?_eq_some_iff.1 hg).1
        have hkeep : ∀ k, k < W.heap.size → (∀ a, RA = some a → a.block ≠ k) → w'.heap[k]? = W.heap[k]? := fun k hk h => hbn.block k hk (fun ⟨a, ha, hab⟩ => h a ha hab)
        have hg' : w'.heap[w1.heap.size + 1]? = some (.cells #[.slice RA l.length rc, .map (some w1.heap.size)] 56 (0, 0)) := (hkeep _ hWlt fun a ha => by have := (hRA a ha).2; omega).trans hg
        have hm' : w'.heap[w1.heap.size]? = some (.map es clk) := (hkeep _ (by omega) fun a ha => by have := (hRA a ha).2; omega).trans hm
        have hbel : Below w.heap.size w w' := by
          refine hb1.trans ((hbW.mono hb1.size).trans ⟨hbn.os, hbn.tape, hbn.output, hbn.size, fun k hk => hkeep k ?_ fun a ha => ?_⟩)
          · have := hb1.size; omega
          · have := (hRA a ha).1; omega
        have hnO : ∀ g, w.heap.size ≤ g → ¬ O g := fun g h ho => by have := hO g ho; omega
        have hs1 := hb1.size
        refine ⟨_, rfl, ?_, hbel⟩
        rw [newS_good hk hn']
        refine ⟨_, rfl, _, _, rfl, ?_, _, _, rfl, ?_, rfl⟩
        · show RelV _ (.ptr SchemaT) _ _
          unfold RelV
          rw [if_neg (by simp [Ty.isS])]
          refine ⟨⟨w1.heap.size + 1, 0, none⟩, [.slice RA l.length rc, .map (some w1.heap.size)], rfl, ⟨[_], [_], rfl, ⟨RA, l.length, rc, flatL (sortK l), rfl, hp.length_eq.symm, ⟨hle, hrc⟩, (RdL_flat _ _).2 rfl, ?_⟩, [_], [], rfl, .inr ⟨w1.heap.size, es.toList.map fun e => .tuple #[e.key, e.val], rfl, ?_, ?_⟩, rfl⟩, ?_⟩
          · intro hpos
            rcases hrow' with ⟨_, h0⟩ | ⟨g, h, hgl, hcell⟩
            · omega
            · subst h
              refine ⟨⟨g, 0, none⟩, rfl, fun j u hj => ⟨by rw [addr_block]; exact hnO g (hRA _ rfl).1, look_cell ?_⟩⟩
              have := (hcell j u hj).1
              rw [Addr.add_lit, Nat.zero_add]
              exact this
          · have hm2 : es.toList.map (fun e => Value.tuple #[e.key, e.val]) = l.map (fun x => Value.tuple #[.int .i64 x.1, .agg (encK x).toArray]) := by
              have := congrArg (List.map fun p : Value × Value => Value.tuple #[p.1, p.2]) hes
              simpa [List.map_map, Function.comp_def] using this
            rw [hm2]
            exact RdM_keys l
          · refine ⟨hnO _ hs1, ?_⟩
            simp only [look, mapV, hm', Option.some.injEq, Value.tuple.injEq]
            apply Array.toList_inj.1
            simp
          · intro j u hj
            refine ⟨by rw [addr_block]; exact hnO _ (by show w.heap.size ≤ w1.heap.size + 1; omega), look_cell ?_⟩
            rw [Addr.add_lit, Nat.zero_add, cell_of_row w' _ j _ 56 (0, 0) hg']
            simpa using hj
        · show RelV _ _ _ _
          unfold RelV
          rw [if_neg (by simp [Ty.isS])]
          rfl
theorem gNew_ok : ∀ n args R (x : denR R), gNew n args R = some x → CallOk Tryd.prog 6 args R x := by
  intro n args R x h
  unfold gNew at h
  split at h
  · rename_i T l
    split at h
    · rename_i l' hl'
      obtain ⟨rfl, hl2⟩ := castT_some hl'
      have hl2 : l = l' := by simpa using hl2.symm
      subst hl2
      split at h
      · rename_i hR
        subst hR
        simp only [Option.some.injEq] at h
        subst h
        exact new_ok l
      · cases h
    · cases h
  · cases h
theorem intrN_ok : IntrOk Tryd.prog [(6, gNew)] := by
  intro f g n args R x h1 h2
  simp only [lk] at h1
  cases hb : Nat.beq 6 f with
  | true =>
    have := Nat.eq_of_beq_eq_true hb
    subst this
    rw [hb] at h1
    simp only [cond_true, Option.some.injEq] at h1
    subst h1
    exact gNew_ok n args R x h2
  | false => rw [hb] at h1; cases h1
#print axioms intrN_ok
end Go.Proofs.YtlcphnmkkilefaaDoor.Ab
