/- The walk through Size of beadleref14, and the walk through ExprShows. -/
import Derived.Test.YtfgkcifkfokoiaaFwA
import Derived.Test.YtfgkcifkfokoiaaFw9
set_option linter.unusedVariables false
set_option linter.unusedSimpArgs false
namespace Go.Proofs.Ytfgkcifkfokoiaa
open Go.RowKit
namespace Ex
/-- Size of the reference counts. -/
def RSizeOK (e : ET) : Prop := ∀ (w : World) (TB : Nat) (rt : Int) (ns : List Nd) (n : Nat), TRd w TB rt ns → Rep ns e n → cnt e ≤ 1099511627776 →
  Calls Try.prog 48 #[.pointer (some ⟨TB, 0, none⟩), .int .i64 (n : Int)] w fun r w' => r = .returned (.int .i64 (cnt e : Int)) ∧ w = w'
set_option maxRecDepth 100000 in
set_option maxHeartbeats 1000000 in
theorem refSize_node (ke : Nat) (wde : ByteArray) (l : List ET) (IH : ∀ e, e ∈ l → RSizeOK e) : RSizeOK (.node ke wde l) := by
  intro w TB rt ns n hT hrep hw
  simp only [Rep] at hrep
  obtain ⟨ks, hnd, hks⟩ := hrep
  have hkl : ks.length = l.length := hks.length
  obtain ⟨b, off, c1, A2, c2, hnl, hnm, g0, g1, g2, g3, hk1, hk2, hkc⟩ := hT.node hnd
  simp only at g1 g2 g3 hk1 hk2 hkc
  rw [hkl] at g3 hk1 hk2 hkc
  have hcnt : cnt (.node ke wde l) = 1 + cntL l := by simp only [cnt]
  have Hcnt := hid hcnt
  rw [hcnt] at hw
  clear hkl hnd hcnt
  go_enter Try.func48, Try.ntmps48
  go_wp2_with fail
  go_loopg [5, 6] l.length (fun g v i wr => ∃ k, k ≤ l.length ∧ g = l.length - k ∧ i = .int .i64 (k : Int) ∧ v = .int .i64 ((1 + cntL (l.take k) : Nat) : Int) ∧ w = wr)
  case atStart => exact ⟨0, Nat.zero_le _, rfl, rfl, rfl, rfl⟩
  case round =>
    obtain ⟨k, hkn, hg, rfl, rfl, rfl⟩ := hrel
    have Hg := hid hg
    clear hg
    have hct := cntL_take_le l k
    by_cases hlt : k < l.length
    · obtain ⟨m, hm1, hm2⟩ := hks.nth k l[k] (by simp [hlt])
      obtain ⟨B4, off4, rfl, hcell4⟩ := hkc (by omega)
      have d3 := hcell4 _ _ hm1
      have hnx := cntL_take l k l[k] (by simp [hlt])
      have hct2 := cntL_take_le l (k + 1)
      have hct3 : cntL (l.take k) + cnt l[k] ≤ cntL l := by omega
      have hIH := hid (IH _ (List.getElem_mem hlt) w TB rt ns m hT hm2 (by omega))
      have Hnx := hid hnx
      clear hm1 hcell4 hnx hct2
      go_wp2_with fail
      refine hIH.out.mono ?_
      rintro r w2 ⟨rfl, rfl⟩
      go_wp2_with fail
      go_roundg (l.length - (k + 1))
      case measure => have := Hg.out; omega
      case rel => exact ⟨k + 1, by omega, rfl, rfl, by rw [Hnx.out]; congr 1; omega, rfl⟩
    · have hke : k = l.length := by omega
      subst hke
      go_wp2_with fail
      go_ret
      refine ⟨?_, rfl⟩
      rw [Hcnt.out, List.take_length]
      rfl
mutual
theorem refSize_any : ∀ e : ET, RSizeOK e
  | .node k wd l => refSize_node k wd l (refSize_anyL l)
theorem refSize_anyL : ∀ (l : List ET) (e : ET), e ∈ l → RSizeOK e
  | x :: l, e, h => by
    rcases List.mem_cons.1 h with h | h
    · rw [h]; exact refSize_any x
    · exact refSize_anyL l e h
end
/-- Below a change that touches nothing old, the three calls of the law answer the same. -/
theorem showR {W W' : World} {e : ET} {TB n : Nat} {rt : Int} {ns : List Nd} (hw : WF e) (hT : TRd W TB rt ns) (hr : Rep ns e n) (hg : wgt e ≤ 1099511627776) (hK : Keep (fun _ => False) W W') :
    Calls Try.prog 46 #[.pointer (some ⟨TB, 0, none⟩), .int .i64 (n : Int), .bool false] W' fun r w' => r = .returned (.string ⟨(sh e).toArray⟩) ∧ Keep (fun _ => False) W w' := by
  refine (refShow_any e hw W' TB rt ns n (hT.keep hK (fun _ h => h)) hr hg false).mono ?_
  rintro r w' ⟨rfl, h⟩
  exact ⟨rfl, hK.trans' h⟩
theorem showP {W W' : World} {e : ET} {v : Value} (hw : wgt e ≤ 1099511627776) (hE : ∃ ok, ExAt W ok e v) (hK : Keep (fun _ => False) W W') :
    Calls Try.prog 17 #[v] W' fun r w' => r = .returned (.string ⟨(sh e).toArray⟩) ∧ Keep (fun _ => False) W w' := by
  obtain ⟨ok, hE⟩ := hE
  refine (Show_any e W' ok v (ExAt.keep hK (fun _ _ h => h) hE) hw).mono ?_
  rintro r w' ⟨rfl, h⟩
  exact ⟨rfl, hK.trans' h⟩
theorem sizeP {W W' : World} {e : ET} {v : Value} (hw : cnt e ≤ 1099511627776) (hE : ∃ ok, ExAt W ok e v) (hK : Keep (fun _ => False) W W') :
    Calls Try.prog 47 #[v] W' fun r w' => r = .returned (.int .i64 (cnt e : Int)) ∧ Keep (fun _ => False) W w' := by
  obtain ⟨ok, hE⟩ := hE
  refine (Size_any e W' ok v (ExAt.keep hK (fun _ _ h => h) hE) hw).mono ?_
  rintro r w' ⟨rfl, h⟩
  exact ⟨rfl, hK.trans' h⟩
theorem sizeR {W W' : World} {e : ET} {TB n : Nat} {rt : Int} {ns : List Nd} (hT : TRd W TB rt ns) (hr : Rep ns e n) (hg : cnt e ≤ 1099511627776) (hK : Keep (fun _ => False) W W') :
    Calls Try.prog 48 #[.pointer (some ⟨TB, 0, none⟩), .int .i64 (n : Int)] W' fun r w' => r = .returned (.int .i64 (cnt e : Int)) ∧ Keep (fun _ => False) W w' := by
  refine (refSize_any e W' TB rt ns n (hT.keep hK (fun _ h => h)) hr hg).mono ?_
  rintro r w' ⟨rfl, rfl⟩
  exact ⟨rfl, hK⟩
set_option maxRecDepth 100000 in
set_option maxHeartbeats 2000000 in
theorem ExprShows_any (s : ByteArray) (hs : s.size ≤ 140737488351232) (w : World) : Calls Try.prog 8 #[.string s] w fun e w' => e = .returned (.bool true) ∧ Keep (fun _ => False) w w' := by
  go_enter Try.func8, Try.ntmps8
  go_wp2_with fail
  refine (speaks_any w).mono ?_
  rintro e w0 ⟨rfl, hK0⟩
  go_wp2_with fail
  refine (refParse_any s hs w0).mono ?_
  rintro e w1 ⟨TB, pl, code, QF1⟩
  obtain rfl := QF1.ending
  have HK1 := hid (hK0.trans' QF1.keep)
  clear hK0
  by_cases h0 : code = 0
  · subst h0
    obtain ⟨rfl, a, j, n, nv, ns, hp, hTO, hrep, -⟩ := QF1.ok rfl
    obtain ⟨hwg, hcn⟩ := parse_wgt hp
    have hwf : WF a := ((lev_wf s _).1 _ _ _ _ _ (by omega) (by omega) (by omega) (parse_ok hp).2.1).1
    have hlen := sh_len a
    have Hp := hid hp
    have hT1 := hTO.trd
    clear QF1 hp
    go_wp2_with fail
    refine (Parse_form s hs w1).mono ?_
    rintro e w2 ⟨k, wd, A, n2, c, pl2, code2, PF1⟩
    obtain rfl := PF1.ending
    obtain ⟨rfl, hE⟩ : code2 = 0 ∧ ExAt w2 (fun k => w1.heap.size ≤ k) a (.agg #[.int .i64 k, .string wd, .slice A n2 c]) := by
      by_cases h2 : code2 = 0
      · obtain ⟨-, a', j', hp', hE'⟩ := PF1.ok h2
        rw [Hp.out] at hp'
        simp only [R.ok.injEq] at hp'
        obtain ⟨rfl, rfl⟩ := hp'
        exact ⟨h2, hE'⟩
      · have := (PF1.bad h2).1
        rw [Hp.out] at this
        cases this
    have hKa := PF1.keep.alloc (.cells #[.int .i64 k, .string wd, .slice A n2 c] 25)
    have hB : Blk (w2.alloc (.cells #[.int .i64 k, .string wd, .slice A n2 c] 25)) w2.heap.size 25 [.int .i64 k, .string wd, .slice A n2 c] := Blk.new w2 _ [_, _, _]
    have hEa := ExAt.keep (S := fun _ => False) ((Keep.refl (fun _ => False) w2).alloc (.cells #[.int .i64 k, .string wd, .slice A n2 c] 25)) (fun _ _ h => h) hE
    have hTa := hT1.keep hKa (fun _ h => h)
    have hBt := hTO.2.1.keep hKa (fun h => h)
    have HK2 := hid (HK1.out.trans' hKa)
    have hsz := PF1.keep.size
    clear PF1 hE hT1 hTO hKa
    have b0 := hB.cellAt (i := 0) rfl
    have b1 := hB.cellAt (i := 1) rfl
    have b2 := hB.cellAt (i := 2) rfl
    go_wp2_with fail
    refine (showP hwg ⟨_, hEa⟩ (Keep.refl _ _)).mono ?_
    rintro r w3 ⟨rfl, hK3⟩
    have hB3 := hB.keep hK3 (fun h => h)
    have hE3 := ExAt.keep hK3 (fun _ _ h => h) hEa
    have hT3 := hTa.keep hK3 (fun _ h => h)
    have hBt3 := hBt.keep hK3 (fun h => h)
    have HK3 := hid (HK2.out.trans' hK3)
    clear hB hEa hTa hBt hK3 b0 b1 b2
    have b0 := hB3.cellAt (i := 0) rfl
    have b1 := hB3.cellAt (i := 1) rfl
    have b2 := hB3.cellAt (i := 2) rfl
    have r1 := hBt3.cellAt (i := 1) rfl
    have hszx : (⟨(sh a).toArray⟩ : ByteArray).size = (sh a).length := by simp [ByteArray.size]
    have Hszx := hid hszx
    clear hszx
    by_cases hlong : 256 < (sh a).length
    case pos =>
      go_wp2_with fail
      go_region_held3 (fun w' => w'.cell? ⟨w2.heap.size, 0, none⟩ = some (.int .i64 k) ∧ w'.cell? ⟨w2.heap.size, 1, none⟩ = some (.string wd) ∧ w'.cell? ⟨w2.heap.size, 2, none⟩ = some (.slice A n2 c) ∧ w'.cell? ⟨TB, 1, none⟩ = some (.int .i64 (n : Int))) (go_keep)
        (first
          | (go_at_call 46; refine (showR hwf hT3 hrep hwg ?_).mono ?_; (first | exact hKs | exact Keep.drew hKs | exact Keep.drew (Keep.refl _ _) | exact Keep.refl _ _); rintro r w' ⟨rfl, hKs⟩; have g0 := hKs.cell b0 (fun h => h); have g1 := hKs.cell b1 (fun h => h); have g2 := hKs.cell b2 (fun h => h); have g3 := hKs.cell r1 (fun h => h))
          | (go_at_call 48; refine (sizeR hT3 hrep (by omega) ?_).mono ?_; (first | exact hKs | exact Keep.drew hKs | exact Keep.drew (Keep.refl _ _) | exact Keep.refl _ _); rintro r w' ⟨rfl, hKs⟩; have g0 := hKs.cell b0 (fun h => h); have g1 := hKs.cell b1 (fun h => h); have g2 := hKs.cell b2 (fun h => h); have g3 := hKs.cell r1 (fun h => h))
          | (go_at_call 47; refine (sizeP (by omega) ⟨_, hE3⟩ ?_).mono ?_; (first | exact hKs | exact Keep.drew hKs | exact Keep.drew (Keep.refl _ _) | exact Keep.refl _ _); rintro r w' ⟨rfl, hKs⟩; have g0 := hKs.cell b0 (fun h => h); have g1 := hKs.cell b1 (fun h => h); have g2 := hKs.cell b2 (fun h => h); have g3 := hKs.cell r1 (fun h => h)))
      all_goals (go_wp2_with fail)
      all_goals go_ret
      all_goals exact ⟨rfl, HK3.out.trans' hKs⟩
    obtain ⟨j2, hp2⟩ := parse_sh Hp.out (by omega)
    have Hp2 := hid hp2
    clear hp2
    go_wp2_with fail
    go_region_held3 (fun w' => w'.cell? ⟨w2.heap.size, 0, none⟩ = some (.int .i64 k) ∧ w'.cell? ⟨w2.heap.size, 1, none⟩ = some (.string wd) ∧ w'.cell? ⟨w2.heap.size, 2, none⟩ = some (.slice A n2 c) ∧ w'.cell? ⟨TB, 1, none⟩ = some (.int .i64 (n : Int))) (go_keep)
      (first
        | (go_at_call 46; refine (showR hwf hT3 hrep hwg ?_).mono ?_; (first | exact hKs | exact Keep.drew hKs | exact Keep.drew (Keep.refl _ _) | exact Keep.refl _ _); rintro r w' ⟨rfl, hKs⟩; have g0 := hKs.cell b0 (fun h => h); have g1 := hKs.cell b1 (fun h => h); have g2 := hKs.cell b2 (fun h => h); have g3 := hKs.cell r1 (fun h => h))
        | (go_at_call 48; refine (sizeR hT3 hrep (by omega) ?_).mono ?_; (first | exact hKs | exact Keep.drew hKs | exact Keep.drew (Keep.refl _ _) | exact Keep.refl _ _); rintro r w' ⟨rfl, hKs⟩; have g0 := hKs.cell b0 (fun h => h); have g1 := hKs.cell b1 (fun h => h); have g2 := hKs.cell b2 (fun h => h); have g3 := hKs.cell r1 (fun h => h))
        | (go_at_call 47; refine (sizeP (by omega) ⟨_, hE3⟩ ?_).mono ?_; (first | exact hKs | exact Keep.drew hKs | exact Keep.drew (Keep.refl _ _) | exact Keep.refl _ _); rintro r w' ⟨rfl, hKs⟩; have g0 := hKs.cell b0 (fun h => h); have g1 := hKs.cell b1 (fun h => h); have g2 := hKs.cell b2 (fun h => h); have g3 := hKs.cell r1 (fun h => h)))
    all_goals (go_wp2_with fail)
    all_goals
      refine (Parse_form ⟨(sh a).toArray⟩ (by rw [Hszx.out]; omega) w').mono ?_
      rintro e w5 ⟨k5, wd5, A5, n5, c5, pl5, code5, PF5⟩
      obtain rfl := PF5.ending
      obtain ⟨rfl, rfl, hE5⟩ : code5 = 0 ∧ pl5 = 0 ∧ ExAt w5 (fun k => w'.heap.size ≤ k) a (.agg #[.int .i64 k5, .string wd5, .slice A5 n5 c5]) := by
        by_cases h2 : code5 = 0
        · obtain ⟨e5, a', j', hp', hE'⟩ := PF5.ok h2
          rw [Hp2.out] at hp'
          simp only [R.ok.injEq] at hp'
          obtain ⟨rfl, rfl⟩ := hp'
          exact ⟨h2, e5, hE'⟩
        · have := (PF5.bad h2).1
          rw [Hp2.out] at this
          cases this
      have hK5 := PF5.keep.alloc (.cells #[.int .i64 k5, .string wd5, .slice A5 n5 c5] 25)
      have hB5 : Blk (w5.alloc (.cells #[.int .i64 k5, .string wd5, .slice A5 n5 c5] 25)) w5.heap.size 25 [.int .i64 k5, .string wd5, .slice A5 n5 c5] := Blk.new w5 _ [_, _, _]
      have hE6 := ExAt.keep (S := fun _ => False) ((Keep.refl (fun _ => False) w5).alloc (.cells #[.int .i64 k5, .string wd5, .slice A5 n5 c5] 25)) (fun _ _ h => h) hE5
      have hT5 := hT3.keep (hKs.trans' hK5) (fun _ h => h)
      have r5 := (hBt3.keep (hKs.trans' hK5) (fun h => h)).cellAt (i := 1) rfl
      have HK5 := hid (HK3.out.trans' (hKs.trans' hK5))
      have f0 := hB5.cellAt (i := 0) rfl
      have f1 := hB5.cellAt (i := 1) rfl
      have f2 := hB5.cellAt (i := 2) rfl
      clear PF5 hE5 hK5 hKs g0 g1 g2 g3 hT3 hBt3 hE3 hB3 b0 b1 b2 r1
      go_wp2_with fail
      go_region_held3 (fun w' => w'.cell? ⟨w5.heap.size, 0, none⟩ = some (.int .i64 k5) ∧ w'.cell? ⟨w5.heap.size, 1, none⟩ = some (.string wd5) ∧ w'.cell? ⟨w5.heap.size, 2, none⟩ = some (.slice A5 n5 c5) ∧ w'.cell? ⟨TB, 1, none⟩ = some (.int .i64 (n : Int))) (go_keep)
        (first
          | (go_at_call 17; refine (showP hwg ⟨_, hE6⟩ ?_).mono ?_; (first | exact hKs | exact Keep.drew hKs | exact Keep.drew (Keep.refl _ _) | exact Keep.refl _ _); rintro r w' ⟨rfl, hKs⟩; have g0 := hKs.cell f0 (fun h => h); have g1 := hKs.cell f1 (fun h => h); have g2 := hKs.cell f2 (fun h => h); have g3 := hKs.cell r5 (fun h => h))
          | (go_at_call 16; refine (sameAt ⟨_, hE6⟩ hT5 hrep ?_).mono ?_; (first | exact hKs | exact Keep.drew hKs | exact Keep.drew (Keep.refl _ _) | exact Keep.refl _ _); rintro r w' ⟨rfl, hKs⟩; have g0 := hKs.cell f0 (fun h => h); have g1 := hKs.cell f1 (fun h => h); have g2 := hKs.cell f2 (fun h => h); have g3 := hKs.cell r5 (fun h => h)))
      all_goals (go_wp2_with fail)
      all_goals go_ret
      all_goals exact ⟨rfl, HK5.out.trans' hKs⟩
  · have hc : ((code : Int) != 0) = true := by simpa using (by omega : ¬ (code : Int) = 0)
    clear QF1
    go_wp2_with fail
    go_ret
    exact ⟨rfl, HK1.out⟩
end Ex
end Go.Proofs.Ytfgkcifkfokoiaa
