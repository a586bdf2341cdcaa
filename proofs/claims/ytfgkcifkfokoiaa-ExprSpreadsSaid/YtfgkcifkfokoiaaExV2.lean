/- The walks through Show and Size of package expr: for every expression that is not too large they give the text and the size in plain Lean. -/
import Derived.Test.YtfgkcifkfokoiaaExV
set_option linter.unusedVariables false
set_option linter.unusedSimpArgs false
namespace Go.Proofs.Ytfgkcifkfokoiaa
open Go.RowKit
namespace Ex

theorem nums_new (w : World) (ks : List Nat) (h : ks.length ≤ 10) : Nums (w.alloc (.cells ((ks.map fun k : Nat => Value.int .i64 (k : Int)).toArray) 3)) (.slice (some ⟨w.heap.size, 0, none⟩) ks.length ks.length) ks :=
  ⟨w.heap.size, rfl, Blk.new w _ _, h⟩

set_option maxRecDepth 100000 in
set_option maxHeartbeats 4000000 in
theorem Show_node (k : Nat) (wd : ByteArray) (l : List ET) (IH : ∀ e, e ∈ l → ShowOK e) : ShowOK (.node k wd l) := by
  intro w ok v h hw
  have hE := h
  simp only [ExAt] at h
  obtain ⟨kv, cs, rfl, hr, hl⟩ := h
  obtain ⟨A, n, c, rfl, hlen, hnc, hm, hcells⟩ := id hr
  have hwl : wgtL l ≤ 1099511627776 := by simp only [wgt] at hw; omega
  have hww : wd.size ≤ 1099511627776 := by simp only [wgt] at hw; omega
  have hrow : ∀ (ks : List Nat) (sep : List UInt8) (hsep : sep.length ≤ 1) (hks : ks.length ≤ 10) (W : World)
      (hos : W.os = w.os) (htp : W.tape = w.tape) (hout : W.output = w.output) (hheap : W.heap = ((w.alloc (.cells #[.int .i64 (k : Int), .string wd, .slice A n c] 25)).alloc (.cells ((ks.map fun k : Nat => Value.int .i64 (k : Int)).toArray) 3)).heap),
      Calls Try.prog 78 #[.agg #[.int .i64 (k : Int), .string wd, .slice A n c], .string ⟨sep.toArray⟩, .slice (some ⟨w.heap.size + 1, 0, none⟩) ks.length ks.length] W
        fun r w' => r = .returned (.string ⟨(Lib.join (shL ks l) sep).toArray⟩) ∧ Keep (fun _ => False) w w' ∧ Blk w' w.heap.size 25 [.int .i64 (k : Int), .string wd, .slice A n c] := by
    intro ks sep hsep hks W hos htp hout hheap
    have hB : Blk W w.heap.size 25 [.int .i64 (k : Int), .string wd, .slice A n c] := by
      unfold Blk
      rw [hheap]
      exact (Blk.new w _ [_, _, _]).alloc _
    have hKW : Keep (fun _ => False) w W := by
      have h0 := ((Keep.refl (fun _ => False) w).alloc (.cells #[.int .i64 (k : Int), .string wd, .slice A n c] 25)).alloc (.cells ((ks.map fun k : Nat => Value.int .i64 (k : Int)).toArray) 3)
      exact ⟨hos, htp, hout, by rw [hheap]; exact h0.size, fun k hk hn => by rw [hheap]; exact h0.block k hk hn⟩
    have hn : Nums W (.slice (some ⟨w.heap.size + 1, 0, none⟩) ks.length ks.length) ks := by
      have hn := nums_new (w.alloc (.cells #[.int .i64 (k : Int), .string wd, .slice A n c] 25)) ks hks
      rw [show (w.alloc (.cells #[.int .i64 (k : Int), .string wd, .slice A n c] 25)).heap.size = w.heap.size + 1 from by simp] at hn
      obtain ⟨b, h1, h2, h3⟩ := hn
      exact ⟨b, h1, by unfold Blk; rw [hheap]; exact h2, h3⟩
    refine (rows_any k wd l IH _ ok _ _ ks sep hsep (ExAt.keep hKW (fun _ _ h => h) hE) hwl hn).mono ?_
    rintro r w' ⟨rfl, hK⟩
    exact ⟨rfl, hKW.trans' hK, hB.keep hK (fun h => h)⟩
  have hS := hid (show sh (.node k wd l) = _ from by rw [sh])
  clear hE hr hl IH hcells hw
  by_cases h1 : k = 1
  · subst h1
    go_enter Try.func17, Try.ntmps17
    go_wp2_with fail
    go_ret
    refine ⟨?_, (Keep.refl _ w).alloc _⟩
    rw [show sh (ET.node 1 wd l) = wd.data.toList from by rw [sh]; rfl, bytes_eta]
    rfl
  by_cases h2 : k = 2
  · subst h2
    go_enter Try.func17, Try.ntmps17
    go_wp2_with fail
    go_ret
    refine ⟨?_, (Keep.refl _ w).alloc _⟩
    rw [show sh (ET.node 2 wd l) = [64] ++ wd.data.toList from by rw [sh]; rfl, ← bs_append, bytes_eta]
    rfl
  by_cases h3 : k = 3
  · subst h3
    go_enter Try.func17, Try.ntmps17
    go_wp2_with fail
    go_ret
    exact ⟨by rw [hS.out]; rfl, (Keep.refl _ w).alloc _⟩
  by_cases h4 : k = 4
  · subst h4
    have hc := hrow [4, 5, 6] [32] (by decide) (by decide)
    go_enter Try.func17, Try.ntmps17
    go_wp2_with fail
    refine (hc _ ?_ ?_ ?_ ?_).mono ?_
    · rfl
    · rfl
    · rfl
    · rfl
    rintro r w' ⟨rfl, hK, -⟩
    go_wp2_with fail
    go_ret
    exact ⟨by rw [hS.out]; rfl, hK⟩
  by_cases h6 : k = 6
  · subst h6
    have hc := hrow [6, 5] [38] (by decide) (by decide)
    go_enter Try.func17, Try.ntmps17
    go_wp2_with fail
    refine (hc _ ?_ ?_ ?_ ?_).mono ?_
    · rfl
    · rfl
    · rfl
    · rfl
    rintro r w' ⟨rfl, hK, -⟩
    go_wp2_with fail
    go_ret
    exact ⟨by rw [hS.out]; rfl, hK⟩
  by_cases h5 : k = 5
  · subst h5
    have hc := hrow [5] [124] (by decide) (by decide)
    go_enter Try.func17, Try.ntmps17
    go_wp2_with fail
    refine (hc _ ?_ ?_ ?_ ?_).mono ?_
    · rfl
    · rfl
    · rfl
    · rfl
    rintro r w' ⟨rfl, hK, -⟩
    go_wp2_with fail
    go_ret
    exact ⟨by rw [hS.out]; rfl, hK⟩
  have hc := hrow [4, 5, 6] [] (by decide) (by decide)
  have hjl : (Lib.join (shL [4, 5, 6] l) []).length ≤ 1099511627776 := by
    have h1 := join_len (shL [4, 5, 6] l) []
    have h2 := shL_len [4, 5, 6] 0 (by decide) l
    simp only [List.length_nil] at h1
    omega
  have hj1 : ¬ (9223372036854775807 < (Lib.join (shL [4, 5, 6] l) []).length + 1) := by omega
  have hj2 : ∀ i : Nat, i ≤ 2 → ((({ data := #[42, 43, 63] } : ByteArray).extract i (i + 1)).size = 1) := by decide
  have hj3 := hj2 0 (by decide)
  have hj4 := hj2 1 (by decide)
  have hj5 := hj2 2 (by decide)
  clear hj2
  by_cases h7 : k = 7 ∨ k = 8 ∨ k = 9
  · obtain ⟨m, hm, hk⟩ : ∃ m : List UInt8, mark k = m ∧ (k = 7 ∧ m = [42] ∨ k = 8 ∧ m = [43] ∨ k = 9 ∧ m = [63]) := by
      rcases h7 with rfl | rfl | rfl
      · exact ⟨_, rfl, .inl ⟨rfl, rfl⟩⟩
      · exact ⟨_, rfl, .inr (.inl ⟨rfl, rfl⟩)⟩
      · exact ⟨_, rfl, .inr (.inr ⟨rfl, rfl⟩)⟩
    have hS2 := hid (show sh (.node k wd l) = Lib.join (shL [4, 5, 6] l) [] ++ m from by rw [hS.out, if_neg h1, if_neg h2, if_neg h3, if_neg h4, if_neg h6, if_neg h5, if_pos h7, hm])
    clear hm hS h1 h2 h3 h4 h5 h6 h7 hrow
    rcases hk with ⟨rfl, rfl⟩ | ⟨rfl, rfl⟩ | ⟨rfl, rfl⟩
    · have z0 : IntKind.i64.wrap 0 = 0 := by decide
      have z1 : IntKind.i64.wrap (0 + 1) = 1 := by decide
      have z2 : IntKind.i64.wrap 1 = 1 := by decide
      go_enter Try.func17, Try.ntmps17
      go_wp2_with fail
      go_region_held3 (fun w' => w'.cell? ⟨w.heap.size, 0, none⟩ = some (.int .i64 7) ∧ w'.cell? ⟨w.heap.size, 1, none⟩ = some (.string wd) ∧ w'.cell? ⟨w.heap.size, 2, none⟩ = some (.slice A n c)) (go_keep) (first | (go_at_call 78; refine (hc _ ?_ ?_ ?_ ?_).mono ?_; rfl; rfl; rfl; rfl; rintro r w' ⟨rfl, hK, hB⟩; have g0 := hB.cellAt (i := 0) rfl; have g1 := hB.cellAt (i := 1) rfl; have g2 := hB.cellAt (i := 2) rfl))
      all_goals (go_wp2_with fail)
      all_goals go_ret
      all_goals exact ⟨by rw [hS2.out, show ∀ a b : List UInt8, (⟨(a ++ b).toArray⟩ : ByteArray) = ⟨a.toArray⟩ ++ ⟨b.toArray⟩ from fun a b => (bs_append a b).symm]; rfl, hK⟩
    · have z0 : IntKind.i64.wrap 1 = 1 := by decide
      have z1 : IntKind.i64.wrap (1 + 1) = 2 := by decide
      have z2 : IntKind.i64.wrap 2 = 2 := by decide
      go_enter Try.func17, Try.ntmps17
      go_wp2_with fail
      go_region_held3 (fun w' => w'.cell? ⟨w.heap.size, 0, none⟩ = some (.int .i64 8) ∧ w'.cell? ⟨w.heap.size, 1, none⟩ = some (.string wd) ∧ w'.cell? ⟨w.heap.size, 2, none⟩ = some (.slice A n c)) (go_keep) (first | (go_at_call 78; refine (hc _ ?_ ?_ ?_ ?_).mono ?_; rfl; rfl; rfl; rfl; rintro r w' ⟨rfl, hK, hB⟩; have g0 := hB.cellAt (i := 0) rfl; have g1 := hB.cellAt (i := 1) rfl; have g2 := hB.cellAt (i := 2) rfl))
      all_goals (go_wp2_with fail)
      all_goals go_ret
      all_goals exact ⟨by rw [hS2.out, show ∀ a b : List UInt8, (⟨(a ++ b).toArray⟩ : ByteArray) = ⟨a.toArray⟩ ++ ⟨b.toArray⟩ from fun a b => (bs_append a b).symm]; rfl, hK⟩
    · have z0 : IntKind.i64.wrap 2 = 2 := by decide
      have z1 : IntKind.i64.wrap (2 + 1) = 3 := by decide
      have z2 : IntKind.i64.wrap 3 = 3 := by decide
      go_enter Try.func17, Try.ntmps17
      go_wp2_with fail
      go_region_held3 (fun w' => w'.cell? ⟨w.heap.size, 0, none⟩ = some (.int .i64 9) ∧ w'.cell? ⟨w.heap.size, 1, none⟩ = some (.string wd) ∧ w'.cell? ⟨w.heap.size, 2, none⟩ = some (.slice A n c)) (go_keep) (first | (go_at_call 78; refine (hc _ ?_ ?_ ?_ ?_).mono ?_; rfl; rfl; rfl; rfl; rintro r w' ⟨rfl, hK, hB⟩; have g0 := hB.cellAt (i := 0) rfl; have g1 := hB.cellAt (i := 1) rfl; have g2 := hB.cellAt (i := 2) rfl))
      all_goals (go_wp2_with fail)
      all_goals go_ret
      all_goals exact ⟨by rw [hS2.out, show ∀ a b : List UInt8, (⟨(a ++ b).toArray⟩ : ByteArray) = ⟨a.toArray⟩ ++ ⟨b.toArray⟩ from fun a b => (bs_append a b).symm]; rfl, hK⟩
  · have t0 : ((k : Int) == 1) = false := by simpa using (by omega : ¬ (k : Int) = 1)
    have t1 : ((k : Int) == 2) = false := by simpa using (by omega : ¬ (k : Int) = 2)
    have t2 : ((k : Int) == 3) = false := by simpa using (by omega : ¬ (k : Int) = 3)
    have t3 : ((k : Int) == 4) = false := by simpa using (by omega : ¬ (k : Int) = 4)
    have t4 : ((k : Int) == 5) = false := by simpa using (by omega : ¬ (k : Int) = 5)
    have t5 : ((k : Int) == 6) = false := by simpa using (by omega : ¬ (k : Int) = 6)
    have t6 : ((k : Int) == 7) = false := by simpa using (by omega : ¬ (k : Int) = 7)
    have t7 : ((k : Int) == 8) = false := by simpa using (by omega : ¬ (k : Int) = 8)
    have t8 : ((k : Int) == 9) = false := by simpa using (by omega : ¬ (k : Int) = 9)
    have hS2 := hid (show sh (.node k wd l) = [40, 41] by rw [hS.out, if_neg h1, if_neg h2, if_neg h3, if_neg h4, if_neg h6, if_neg h5, if_neg h7])
    clear h1 h2 h3 h4 h5 h6 h7 hS hc hrow
    go_enter Try.func17, Try.ntmps17
    go_wp2_with fail
    go_ret
    exact ⟨by rw [hS2.out]; rfl, (Keep.refl _ w).alloc _⟩
mutual
theorem Show_any : ∀ e : ET, ShowOK e
  | .node k wd l => Show_node k wd l (Show_anyL l)
theorem Show_anyL : ∀ (l : List ET) (e : ET), e ∈ l → ShowOK e
  | x :: l, e, h => by
    rcases List.mem_cons.1 h with h | h
    · rw [h]; exact Show_any x
    · exact Show_anyL l e h
end
end Ex
end Go.Proofs.Ytfgkcifkfokoiaa
