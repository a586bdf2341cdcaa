/- The walk through ExprSpreads. -/
import Derived.Test.YtfgkcifkfokoiaaFwF
set_option linter.unusedVariables false
set_option linter.unusedSimpArgs false
namespace Go.Proofs.Ytfgkcifkfokoiaa
open Go.RowKit
namespace Ex
theorem TOwn.tat {base : Nat} {w : World} {TB : Nat} {rt : Int} {nv : Value} {ns : List Nd} (h : TOwn base w TB rt nv ns) : TAt (fun _ => False) w TB nv ns rt := by
  obtain ⟨h0, h1, xs, h2, h3⟩ := h
  exact ⟨h1, xs, Own.lower h2 (Nat.zero_le _), h3⟩
theorem TOwn.keep {base : Nat} {w w' : World} {TB : Nat} {rt : Int} {nv : Value} {ns : List Nd} (h : TOwn base w TB rt nv ns) (hK : Keep (fun _ => False) w w') : TOwn base w' TB rt nv ns := by
  obtain ⟨h0, h1, xs, h2, h3⟩ := h
  exact ⟨h0, h1.keep hK (fun h => h), xs, Own.keep h2 hK (fun _ _ h => h), h3.step hK (fun _ _ h => h)⟩
theorem TOwn.ts {base : Nat} {w : World} {TB : Nat} {rt : Int} {nv : Value} {ns : List Nd} (h : TOwn base w TB rt nv ns) : ∀ k, TS TB nv k → base ≤ k ∧ k < w.heap.size := by
  obtain ⟨h0, h1, xs, h2, h3⟩ := h
  rintro k (rfl | hk)
  · exact ⟨h0, h1.lt⟩
  · exact h2.lt k hk
set_option maxRecDepth 100000 in
set_option maxHeartbeats 2000000 in
theorem ExprSpreads_any (s : ByteArray) (hs : s.size ≤ 140737488351232) (w : World) : Calls Try.prog 12 #[.string s] w fun e w' => e = .returned (.bool true) ∧ Keep (fun _ => False) w w' := by
  go_enter Try.func12, Try.ntmps12
  go_wp2_with fail
  refine (speaks_any w).mono ?_
  rintro e w0 ⟨rfl, hK0⟩
  go_wp2_with fail
  refine (refParse_any s hs w0).mono ?_
  rintro e w1 ⟨TB, pl, code, QF1⟩
  obtain rfl := QF1.ending
  have hKw := hK0.size
  have HK1 := hid (hK0.trans' QF1.keep)
  clear hK0
  by_cases h0 : code = 0
  · subst h0
    obtain ⟨rfl, a, j, n, nv, ns, hp, hTO, hrep, hnl⟩ := QF1.ok rfl
    obtain ⟨hwg, hcn⟩ := parse_wgt hp
    have hwf : WF a := ((lev_wf s _).1 _ _ _ _ _ (by omega) (by omega) (by omega) (parse_ok hp).2.1).1
    have Hp := hid hp
    have hts := hTO.ts
    clear QF1 hp
    go_wp2_with fail
    refine (Parse_form s hs w1).mono ?_
    rintro e w2 ⟨k, wd, A, n2, c, pl2, code2, PF1⟩
    obtain rfl := PF1.ending
    obtain ⟨rfl, hE⟩ : code2 = 0 ∧ ExAt w2 (fun k => w1.heap.size ≤ k) a (.agg #[.int .i64 k, .string wd, .slice A n2 c]) := by
      by_cases h2 : code2 = 0
      · obtain ⟨-, a', j', hp', hE'⟩ := PF1.ok h2
        rw [Hp.out] at hp'
        simp only [R.ok.injEq] at hp'
        obtain ⟨rfl, rfl⟩ := hp'
        exact ⟨h2, hE'⟩
      · have := (PF1.bad h2).1
        rw [Hp.out] at this
        cases this
    have hKa := PF1.keep.alloc (.cells #[.int .i64 k, .string wd, .slice A n2 c] 25)
    have hB : Blk (w2.alloc (.cells #[.int .i64 k, .string wd, .slice A n2 c] 25)) w2.heap.size 25 [.int .i64 k, .string wd, .slice A n2 c] := Blk.new w2 _ [_, _, _]
    have hEa := ExAt.keep (S := fun _ => False) ((Keep.refl (fun _ => False) w2).alloc (.cells #[.int .i64 k, .string wd, .slice A n2 c] 25)) (fun _ _ h => h) hE
    have hTa := hTO.keep hKa
    have hsz := PF1.keep.size
    have b0 := hB.cellAt (i := 0) rfl
    have b1 := hB.cellAt (i := 1) rfl
    have b2 := hB.cellAt (i := 2) rfl
    clear PF1 hE hTO
    go_wp2_with fail
    refine (showP hwg ⟨_, hEa⟩ (Keep.refl _ _)).mono ?_
    rintro r w3 ⟨rfl, hK3⟩
    have hB3 := hB.keep hK3 (fun h => h)
    have hE3 := ExAt.keep hK3 (fun _ _ h => h) hEa
    have hT3 := hTa.keep hK3
    have hK03 := hKa.trans' hK3
    have hz3 : w2.heap.size + 1 ≤ w3.heap.size := by have := hK3.size; simp at this; omega
    clear hB hEa hTa hKa hK3 b0 b1 b2
    have b0 := hB3.cellAt (i := 0) rfl
    have b1 := hB3.cellAt (i := 1) rfl
    have b2 := hB3.cellAt (i := 2) rfl
    go_wp2_with fail
    refine (Spread_any a hwf w3 _ _ hE3 (by omega)).mono ?_
    rintro r w4 hPP
    have hrs := fun W TBx rtx nvx nsx nx hT hr hb => refSpread_any a hwf (fun _ => False) W TBx rtx nvx nsx nx (fun _ h => h.elim) hT hr hb
    cases hx : spd a with
    | none =>
      rw [hx] at hPP hrs
      obtain ⟨rfl, hK4⟩ := hPP
      have hK4' := hK4.alloc (.cells #[.int .i64 0, .string ⟨#[]⟩, .slice none 0 0] 25)
      have hBf : Blk (w4.alloc (.cells #[.int .i64 0, .string ⟨#[]⟩, .slice none 0 0] 25)) w4.heap.size 25 [.int .i64 0, .string ⟨#[]⟩, .slice none 0 0] := Blk.new w4 _ [_, _, _]
      have hT4 := hT3.keep hK4'
      have hzz := hK4.size
      have hcl := hrs _ TB n nv ns n hT4.tat hrep (by omega)
      have r1 := hT4.2.1.cellAt (i := 1) rfl
      have HK5 := hid ((HK1.out.trans' hK03).trans' hK4')
      clear hrs hT3 hB3 hE3 hK4 hK4' hK03 hx b0 b1 b2
      go_wp2_with fail
      refine hcl.mono ?_
      rintro r w5 ⟨ms, nv5, rfl, hG⟩
      have hBg := hBf.keep hG.keep (fun e => by have := hts _ e; omega)
      have g0 := hBg.cellAt (i := 0) rfl
      have g2 := hBg.cellAt (i := 2) rfl
      have HK6 := hid (HK5.out.trans hG.keep (fun q hq => .inr (by have := hts _ hq; omega)))
      clear hcl hG hT4 hBf
      go_wp2_with fail
      go_ret
      exact ⟨rfl, HK6.out⟩
    | some x =>
      rw [hx] at hPP hrs
      obtain ⟨k4, wd4, A4, n4, c4, rfl, hE4, hK4⟩ := hPP
      have hKa4 := (Keep.refl (fun _ => False) w4).alloc (.cells #[.int .i64 k4, .string wd4, .slice A4 n4 c4] 25)
      have hK4' := hK4.trans' hKa4
      have hBf : Blk (w4.alloc (.cells #[.int .i64 k4, .string wd4, .slice A4 n4 c4] 25)) w4.heap.size 25 [.int .i64 k4, .string wd4, .slice A4 n4 c4] := Blk.new w4 _ [_, _, _]
      have hEf := ExAt.keep hKa4 (fun _ _ h => h) hE4
      have hEe := ExAt.keep hK4' (fun _ _ h => h) hE3
      have hBe := hB3.keep hK4' (fun h => h)
      have hT4 := hT3.keep hK4'
      have hzz := hK4.size
      have hcl := hrs _ TB n nv ns n hT4.tat hrep (by omega)
      have r1 := hT4.2.1.cellAt (i := 1) rfl
      have HK5 := hid ((HK1.out.trans' hK03).trans' hK4')
      clear hrs hT3 hB3 hE3 hK4 hK4' hK03 hE4 hKa4 hx b0 b1 b2
      go_wp2_with fail
      refine hcl.mono ?_
      rintro r w5 ⟨m, ms, nv5, rfl, hG, hrp⟩
      have hBg := hBf.keep hG.keep (fun e => by have := hts _ e; omega)
      have hBh := hBe.keep hG.keep (fun e => by have := hts _ e; omega)
      have hEg := ExAt.keep hG.keep (fun q hq e => by have := hts _ e; omega) hEf
      have hEh := ExAt.keep hG.keep (fun q hq e => by have := hts _ e; omega) hEe
      have hTr := hG.tr.trd2
      have g0 := hBg.cellAt (i := 0) rfl
      have g1 := hBg.cellAt (i := 1) rfl
      have g2 := hBg.cellAt (i := 2) rfl
      have g3 := hBh.cellAt (i := 0) rfl
      have g4 := hBh.cellAt (i := 1) rfl
      have g5 := hBh.cellAt (i := 2) rfl
      have HK6 := hid (HK5.out.trans hG.keep (fun q hq => .inr (by have := hts _ hq; omega)))
      clear hcl hG hT4 hBf hBe hEf hEe
      go_wp2_with fail
      refine (sameAt ⟨_, hEg⟩ hTr hrp (Keep.refl _ _)).mono ?_
      rintro r w6 ⟨rfl, hK6⟩
      have hBi := hBh.keep hK6 (fun h => h)
      have f0 := hBi.cellAt (i := 0) rfl
      have f1 := hBi.cellAt (i := 1) rfl
      have f2 := hBi.cellAt (i := 2) rfl
      have hEi := ExAt.keep hK6 (fun _ _ h => h) hEh
      have HK7 := hid (HK6.out.trans' hK6)
      clear hBg hBh hEg hEh hTr hK6 g0 g1 g2 g3 g4 g5
      go_wp2_with fail
      refine (showP hwg ⟨_, hEi⟩ (Keep.refl _ _)).mono ?_
      rintro r w7 ⟨rfl, hK7⟩
      go_wp2_with fail
      go_ret
      exact ⟨rfl, HK7.out.trans' hK7⟩
  · have hc : ((code : Int) != 0) = true := by simpa using (by omega : ¬ (code : Int) = 0)
    clear QF1
    go_wp2_with fail
    go_ret
    exact ⟨rfl, HK1.out⟩
end Ex
end Go.Proofs.Ytfgkcifkfokoiaa
