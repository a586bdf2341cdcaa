/- The walk through ExprParses. -/
import Derived.Test.YtfgkcifkfokoiaaFw8
import Derived.Test.YtfgkcifkfokoiaaExL1
set_option linter.unusedVariables false
set_option linter.unusedSimpArgs false
namespace Go.Proofs.Ytfgkcifkfokoiaa
open Go.RowKit
namespace Ex
theorem sameAt {W W' : World} {e : ET} {v : Value} {TB n : Nat} {rt : Int} {ns : List Nd} (hE : ∃ ok, ExAt W ok e v) (hT : TRd W TB rt ns) (hr : Rep ns e n) (hK : Keep (fun _ => False) W W') :
    Calls Try.prog 16 #[v, .pointer (some ⟨TB, 0, none⟩), .int .i64 (n : Int)] W' fun r w' => r = .returned (.bool true) ∧ Keep (fun _ => False) W w' := by
  obtain ⟨ok, hE⟩ := hE
  refine (same_any e W' ok v TB rt ns n (ExAt.keep hK (fun _ _ h => h) hE) (hT.keep hK (fun _ h => h)) hr).mono ?_
  rintro r w' ⟨rfl, h⟩
  exact ⟨rfl, hK.trans' h⟩
theorem PF.same {s : ByteArray} {w w' w2 w3 : World} {e e2 : Ending} {k : Int} {wd : ByteArray} {A : Option Addr} {n c pl code TB pl2 code2 : Nat} (h : PF s w w' e k wd A n c pl code) (h2 : QF s w2 w3 e2 TB pl2 code2) : pl2 = pl ∧ code2 = code := by
  by_cases h0 : code = 0
  · obtain ⟨e1, a, j, hp, -⟩ := h.ok h0
    by_cases h3 : code2 = 0
    · obtain ⟨e2, -⟩ := h2.ok h3
      omega
    · have := h2.bad h3
      rw [hp] at this
      cases this
  · have hp := (h.bad h0).1
    by_cases h3 : code2 = 0
    · obtain ⟨e2, t, j, n, nv, ns, hp2, -⟩ := h2.ok h3
      rw [hp] at hp2
      cases hp2
    · have := h2.bad h3
      rw [hp] at this
      simp only [R.bad.injEq] at this
      omega
set_option maxRecDepth 100000 in
set_option maxHeartbeats 1000000 in
theorem ExprParses_any (s : ByteArray) (hs : s.size ≤ 140737488351232) (w : World) : Calls Try.prog 3 #[.string s] w fun e w' => e = .returned (.bool true) ∧ Keep (fun _ => False) w w' := by
  go_enter Try.func3, Try.ntmps3
  go_wp2_with fail
  refine (speaks_any w).mono ?_
  rintro e w0 ⟨rfl, hK0⟩
  go_wp2_with fail
  refine (Parse_form s hs w0).mono ?_
  rintro e w1 ⟨k, wd, A, n, c, pl, code, PF1⟩
  obtain rfl := PF1.ending
  go_wp2_with fail
  refine (refParse_any s hs _).mono ?_
  rintro e w2 ⟨TB, pl2, code2, QF1⟩
  obtain rfl := QF1.ending
  obtain ⟨rfl, rfl⟩ := PF1.same QF1
  have hKq := QF1.keep
  have hB : Blk w2 w1.heap.size 25 [.int .i64 k, .string wd, .slice A n c] := (Blk.new w1 _ [_, _, _]).keep hKq (fun h => h)
  have b0 := hB.cellAt (i := 0) rfl
  have b1 := hB.cellAt (i := 1) rfl
  have b2 := hB.cellAt (i := 2) rfl
  have hK3 := (hK0.trans' PF1.keep).trans' (((Keep.refl (fun _ => False) w1).alloc (.cells #[.int .i64 k, .string wd, .slice A n c] 25)).trans' hKq)
  have HK3 := hid hK3
  by_cases h0 : code2 = 0
  · obtain ⟨rfl, a, j, hp, hE⟩ := PF1.ok h0
    obtain ⟨-, t, j', n2, nv, ns, hp2, hTO, hrep, -⟩ := QF1.ok h0
    rw [hp] at hp2
    simp only [R.ok.injEq] at hp2
    obtain ⟨rfl, rfl⟩ := hp2
    subst h0
    have hE2 := ExAt.keep (S := fun _ => False) (((Keep.refl (fun _ => False) w1).alloc (.cells #[.int .i64 k, .string wd, .slice A n c] 25)).trans' hKq) (fun _ _ h => h) hE
    have r1 := hTO.2.1.cellAt (i := 1) rfl
    have hTr := hTO.trd
    clear PF1 QF1 hKq hB hK3 hK0 hE hTO hp
    go_wp2_with fail
    go_region_held3 (fun w' => w'.cell? ⟨w1.heap.size, 0, none⟩ = some (.int .i64 k) ∧ w'.cell? ⟨w1.heap.size, 1, none⟩ = some (.string wd) ∧ w'.cell? ⟨w1.heap.size, 2, none⟩ = some (.slice A n c) ∧ w'.cell? ⟨TB, 1, none⟩ = some (.int .i64 (n2 : Int))) (go_keep)
      (first | (go_at_call 16; refine (sameAt ⟨_, hE2⟩ hTr hrep ?_).mono ?_; (first | exact Keep.drew (Keep.refl _ _) | exact Keep.refl _ _); rintro r w' ⟨rfl, hKs⟩; have g0 := hKs.cell b0 (fun h => h); have g1 := hKs.cell b1 (fun h => h); have g2 := hKs.cell b2 (fun h => h); have g3 := hKs.cell r1 (fun h => h)))
    all_goals (go_wp2_with fail)
    all_goals go_ret
    all_goals exact ⟨rfl, HK3.out.trans' hKs⟩
  · obtain ⟨hp, rfl, rfl, rfl, rfl, rfl⟩ := PF1.bad h0
    have hc : ((code2 : Int) != 0) = true := by simpa using (by omega : ¬ (code2 : Int) = 0)
    clear PF1 QF1 hKq hB hK3 hK0 hp
    go_wp2_with fail
    go_ret
    exact ⟨rfl, HK3.out⟩
end Ex
end Go.Proofs.Ytfgkcifkfokoiaa
