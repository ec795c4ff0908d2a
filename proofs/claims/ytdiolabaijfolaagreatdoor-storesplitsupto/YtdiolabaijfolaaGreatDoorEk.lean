/-
  The law StoreSplits of almanaclaw20 answers true for every path and every list of users whose bulk is at most 1048576: the evaluator, its soundness, what each function answers, the row and its card. This part: S20N.
-/
import Derived.Test.YtdiolabaijfolaaGreatDoorCards
import Derived.Test.YtdiolabaijfolaaGreatDoorTie
import Derived.WalkKit
import Derived.ProofKit
import Derived.OpenShut
import Derived.Carry
import Derived.Lay
import Derived.Deep.DeepHandedRow
import Derived.Deep.SlicePairs
import Derived.ChangeMaps5
import Derived.Test.YtdiolabaijfolaaGreatDoorEj
set_option linter.all false
namespace Go.Proofs.YtdiolabaijfolaaGreatDoor
open Go.ChangeShapes Go.WideShapes Go.ChangeAt Go.RowKit Go.Ev Go.Ev.S20

/-- THE TYPES OF THE ARGUMENTS: texts, users, slices of users. -/
theorem closedTypes : closedB Tryz.prog [9, 22, 50] = true := by kernel_rfl
theorem mixed : EE.P.follows .mixedOrders = true := by kernel_rfl

theorem bulk_one {H : Type} (d : DataW H) : 1 ≤ Rows.uptoBulk d := by
  cases d with
  | lit l => cases l <;> simp [Rows.uptoBulk]
  | nil => simp [Rows.uptoBulk]
  | ptr d => simp [Rows.uptoBulk]
  | slice elems spare => simp [Rows.uptoBulk]
  | agg parts => simp [Rows.uptoBulk]
  | iface t d => simp [Rows.uptoBulk]
  | map entries => simp [Rows.uptoBulk]
  | held h => simp [Rows.uptoBulk]
theorem bulk_len {H : Type} : ∀ l : List (DataW H), l.length ≤ Rows.uptoBulkAll l
  | [] => by simp [Rows.uptoBulkAll]
  | x :: r => by have := bulk_len r; have := bulk_one x; simp only [Rows.uptoBulkAll, List.length_cons]; omega
theorem bulk_part {H : Type} {d : DataW H} : ∀ {l : List (DataW H)}, d ∈ l → Rows.uptoBulk d ≤ Rows.uptoBulkAll l
  | x :: r, h => by
    simp only [Rows.uptoBulkAll]
    rcases List.mem_cons.1 h with rfl | h
    · omega
    · have := bulk_part h; omega

/-- A DATUM OF USERS IS THE EVALUATOR'S ROWS. -/
theorem users_of {H : Type} {enc : TypeId × Value → H} {W : World} {v : Value} {d : DataW H} {ps : List MemPlace} (h : DataW.Trod enc Tryz.prog W 0 (fun _ => true) true 22 v d ps) (hb : Rows.uptoBulk d ≤ 1048576) :
    ∃ (n0 : Bool) (us : List Usr), cellsD d = [.vec n0 none (urows us)] ∧ (n0 = true → us = []) ∧ us.length ≤ 1048576 ∧ ∀ u ∈ us, u.1.length ≤ 1048576 ∧ u.2.length ≤ 1048576 := by
  obtain ⟨fuel, h⟩ := h
  rcases Deep.open_slice_pairs (enc := enc) Tryz.underlying22 Tryz.underlying50 (by kernel_rfl) rfl rfl (by kernel_rfl) (by kernel_rfl) h with ⟨hc, hx⟩ | ⟨a, len, cap, m, n, V0, V1, D0, D1, P0, P1, hc, _, hl, _, hm, hx, hi⟩
  · obtain ⟨rfl, rfl⟩ := Prod.mk.inj hx
    exact ⟨true, [], rfl, fun _ => rfl, by simp, by simp⟩
  · obtain ⟨rfl, rfl⟩ := Prod.mk.inj hx
    have hm' : m = cap := by rw [hm]; rfl
    have each : ∀ i, i < len → ∃ u : Usr, (DataW.agg [D0 i, D1 i] : DataW H) = .agg [.lit (.string u.1), .lit (.string u.2)] := by
      intro i hi'
      obtain ⟨_, _, h0, h1⟩ := hi i (by omega)
      obtain ⟨s0, _, e0, _⟩ := DataW.trod_string Tryz.underlying9 h0
      obtain ⟨s1, _, e1, _⟩ := DataW.trod_string Tryz.underlying9 h1
      refine ⟨(s0.data.toList, s1.data.toList), ?_⟩
      rw [(Prod.mk.inj e0).1, (Prod.mk.inj e1).1]
    obtain ⟨U, hU⟩ := Deep.choose_lt each
    have hel : (List.range len).map (fun i => (DataW.agg [D0 i, D1 i] : DataW H)) = ((List.range len).map U).map fun u => .agg [.lit (.string u.1), .lit (.string u.2)] := by
      rw [List.map_map]
      exact List.map_congr_left fun i hi => hU i (List.mem_range.1 hi)
    rw [hel] at hb ⊢
    simp only [Rows.uptoBulk] at hb
    have hlen := bulk_len (((List.range len).map U).map fun u => (DataW.agg [.lit (.string u.1), .lit (.string u.2)] : DataW H))
    refine ⟨false, (List.range len).map U, ?_, (fun h => by cases h), ?_, ?_⟩
    · rw [cellsD, rowsD_map, List.map_map]; rfl
    · simp only [List.length_map, List.length_range] at hlen ⊢; omega
    · intro u hu
      have := bulk_part (List.mem_map_of_mem (f := fun u : Usr => (DataW.agg [.lit (.string u.1), .lit (.string u.2)] : DataW H)) hu)
      simp only [Rows.uptoBulk, Rows.uptoBulkAll] at this
      omega

set_option maxRecDepth 100000 in
/-- WHAT THE CALL GIVES, FOR EVERY ARGUMENT OF THE BULK. -/
theorem contract (H : Type) (enc : TypeId × Value → H) (W : World) (base : Nat) (args : Array Value) (ds gs : List (DataW H)) (before : List MemPlace)
    (hval : ∀ (j : Nat) t v, Tryz.f3.params[j]? = some t → args[j]? = some v → Value.okWide Tryz.prog W .any base t v)
    (hW : DataW.Whole enc Tryz.prog Tryz.f3.params.toList Rows.storeSplitsSpec.vars false W args.toList ds gs before) (hk : Rows.uptoSmall H (ds ++ gs) = true) :
    Calls Tryz.prog 3 args W fun e W' => ∃ v, e = .returned v ∧ Rows.storeSplitsSpec.post enc Tryz.prog Tryz.f3 false true false false W args v W' := by
  have hW' := hW
  obtain ⟨p, q, hA0, hV, rfl, hfz, hnd⟩ := hW
  have hA : DataW.TrodAll enc Tryz.prog W 0 (fun _ => true) true Tryz.f3.params.toList args.toList ds p := hA0
  rw [Tryz.params3] at hA hval
  obtain ⟨v0, v1, d0, d1, p0, p1, rfl, rfl, rfl, h0, h1⟩ := trodAll_two hA
  obtain ⟨rfl, rfl⟩ := trodVars_none hV
  have hbulk : Rows.uptoBulkAll [d0, d1] ≤ 1048576 := by simpa [Rows.uptoSmall] using hk
  simp only [Rows.uptoBulkAll] at hbulk
  have hlt0 : ∀ x ∈ p0, x.block < W.heap.size := fun x hx => by simpa using hW'.lt x (by simp [hx])
  have hlt1 : ∀ x ∈ p1, x.block < W.heap.size := fun x hx => by simpa using hW'.lt x (by simp [hx])
  have hv0 := hval 0 9 v0 rfl rfl
  have hv1 := hval 1 22 v1 rfl rfl
  obtain ⟨s, rfl, hd0, -, -⟩ := Go.ChangeMaps.open_string Tryz.underlying9 hv0 h0
  obtain ⟨n0, us, hc1, hn0, hul, hus⟩ := users_of h1 (by omega)
  have hps : s.data.toList.length ≤ 1048576 := by
    have : Rows.uptoBulk d0 = s.data.toList.length + 1 := by rw [hd0]; simp [Rows.uptoBulk]
    omega
  have m9 : manyT Tryz.prog 9 = false := by kernel_rfl
  have m22 : manyT Tryz.prog 22 = false := by kernel_rfl
  obtain ⟨sa, sl, sc, rfl⟩ := okWide_slice Tryz.underlying22 hv1
  have r0 := Trod_rel closedTypes (t := 9) (v := .string s) (by simp) ⟨(fun h => by rw [m9] at h; cases h), fun _ => trivial⟩ h0
  have r1 := Trod_rel closedTypes (t := 22) (v := .slice sa sl sc) (by simp) ⟨(fun h => by rw [m22] at h; cases h), fun _ => trivial⟩ h1
  rw [m9] at r0
  rw [m22] at r1
  have e0 : valD false d0 = .str s.data.toList := by rw [hd0]; rfl
  have e1 : valD false d1 = .vec n0 none (urows us) := by unfold valD; rw [hc1]; rfl
  rw [e0] at r0
  rw [e1] at r1
  obtain ⟨n, v, h, he, rfl⟩ := (law_spec s.data.toList hps n0 us hn0 hul hus).told
  have key := ev_calls (E := EE) (tabOf_ok EE) (fun g cs h => by cases h) mixed he (W := W) (cargs := #[.string s, .slice sa sl sc]) (fun g cs h => by cases h) (LRel.cons_iff.2 ⟨r0, LRel.cons_iff.2 ⟨r1, LRel.nil_iff.2 rfl⟩⟩) Tryz.func3 (by kernel_rfl) (of_decide_eq_true (by kernel_rfl))
  refine Calls.mono key fun e W' hp => ?_
  obtain ⟨c, Y, rfl, _, hvr, hbelow⟩ := hp
  have hcb : c = .bool true := by simpa [VRel] using hvr
  subst hcb
  refine ⟨_, rfl, _, _, _, [], p0 ++ p1, [], hW', ?_, ?_, rfl, hbelow.frame _, fun h => by cases h⟩
  · exact trodAll_mk1 (shut_bool Tryz.underlying4 _)
  · exact trodAll_mk2 (Below.trod (by kernel_rfl) (by kernel_rfl) (of_decide_eq_true (by kernel_rfl)) h0 hbelow hlt0) (Below.trod (by kernel_rfl) (by kernel_rfl) (of_decide_eq_true (by kernel_rfl)) h1 hbelow hlt1)

end Go.Proofs.YtdiolabaijfolaaGreatDoor
