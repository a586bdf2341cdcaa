/- The walk through ExprJoins. -/
import Derived.Test.YtfgkcifkfokoiaaExL3
import Derived.Test.YtfgkcifkfokoiaaExV3
set_option linter.unusedVariables false
set_option linter.unusedSimpArgs false
namespace Go.Proofs.Ytfgkcifkfokoiaa
open Go.RowKit
namespace Ex
theorem deep_le (s : ByteArray) : deepv s ≤ s.size ∧ 0 ≤ deepv s := by
  have := depth_bound s.data.toList s.size
  rw [List.take_of_length_le (by simp)] at this
  exact ⟨this.2.2.2, this.2.2.1⟩
theorem showK {W W' : World} {e : ET} {v : Value} (hE : ∃ ok, ExAt W ok e v) (hw : wgt e ≤ 1099511627776) (hK : Keep (fun _ => False) W W') :
    Calls Try.prog 17 #[v] W' fun r w' => r = .returned (.string ⟨(sh e).toArray⟩) ∧ Keep (fun _ => False) W w' := by
  obtain ⟨ok, hE⟩ := hE
  refine (Show_any e W' ok v (ExAt.keep hK (fun _ _ h => h) hE) hw).mono ?_
  rintro r w' ⟨rfl, h⟩
  exact ⟨rfl, hK.trans' h⟩
theorem sizeK {W W' : World} {e : ET} {v : Value} (hE : ∃ ok, ExAt W ok e v) (hw : cnt e ≤ 1099511627776) (hK : Keep (fun _ => False) W W') :
    Calls Try.prog 47 #[v] W' fun r w' => r = .returned (.int .i64 (cnt e : Int)) ∧ Keep (fun _ => False) W w' := by
  obtain ⟨ok, hE⟩ := hE
  refine (Size_any e W' ok v (ExAt.keep hK (fun _ _ h => h) hE) hw).mono ?_
  rintro r w' ⟨rfl, h⟩
  exact ⟨rfl, hK.trans' h⟩
theorem str_list (a b c : List UInt8) : ((⟨a.toArray⟩ : ByteArray) ++ ⟨b.toArray⟩ ++ ⟨c.toArray⟩).data.toList = a ++ b ++ c := by simp [ByteArray.data_append]
/-- Two kids in memory. -/
theorem two_at {w : World} {ok : Nat → Prop} {a b : ET} {wd : ByteArray} {A : Option Addr} {n c : Nat} {k : Int} (h : ExAt w ok (.node 5 ByteArray.empty [a, b]) (.agg #[.int .i64 k, .string wd, .slice A n c])) :
    k = 5 ∧ n = 2 ∧ 2 ≤ c ∧ ∃ B off ka wa Aa na ca kb wb Ab nb cb, A = some ⟨B, off, none⟩ ∧ w.cell? ⟨B, off, none⟩ = some (.int .i64 ka) ∧ w.cell? ⟨B, off + 1, none⟩ = some (.string wa) ∧ w.cell? ⟨B, off + 2, none⟩ = some (.slice Aa na ca) ∧
      w.cell? ⟨B, off + 3, none⟩ = some (.int .i64 kb) ∧ w.cell? ⟨B, off + 3 + 1, none⟩ = some (.string wb) ∧ w.cell? ⟨B, off + 3 + 2, none⟩ = some (.slice Ab nb cb) ∧
      ExAt w ok a (.agg #[.int .i64 ka, .string wa, .slice Aa na ca]) ∧ ExAt w ok b (.agg #[.int .i64 kb, .string wb, .slice Ab nb cb]) := by
  simp only [ExAt] at h
  obtain ⟨kv, cs, hv, ⟨A', n', c', rfl, hl, hnc, -, hcell⟩, hks⟩ := h
  simp only [Value.agg.injEq, Array.mk.injEq, List.cons.injEq, Value.int.injEq, Value.slice.injEq, and_true, true_and] at hv
  obtain ⟨hk, hwd, rfl, rfl, rfl⟩ := hv
  have h3 := hks.length
  simp only [List.length_cons, List.length_nil] at h3
  obtain ⟨B, off, rfl, -, hc⟩ := hcell (by omega)
  simp only [KsAt] at hks
  obtain ⟨a0, a1, a2, r, rfl, hEa, b0, b1, b2, r', rfl, hEb, rfl⟩ := hks
  obtain ⟨ka, wa, Aa, na, ca, e1⟩ := hEa.form
  obtain ⟨kb, wb, Ab, nb, cb, e2⟩ := hEb.form
  simp at e1 e2
  obtain ⟨rfl, rfl, rfl⟩ := e1
  obtain ⟨rfl, rfl, rfl⟩ := e2
  have d0 := hc 0 _ rfl
  have d1 := hc 1 _ rfl
  have d2 := hc 2 _ rfl
  have d3 := hc 3 _ rfl
  have d4 := hc 4 _ rfl
  have d5 := hc 5 _ rfl
  exact ⟨hk, by omega, by omega, B, off, ka, wa, Aa, na, ca, kb, wb, Ab, nb, cb, rfl, d0, d1, d2, d3, d4, d5, hEa, hEb⟩
set_option maxRecDepth 100000 in
set_option maxHeartbeats 4000000 in
theorem ExprJoins_any (s : ByteArray) (hs : s.size ≤ 140737488351232) (t : ByteArray) (ht : t.size ≤ 140737488351232) (w : World) : Calls Try.prog 9 #[.string s, .string t] w fun e w' => e = .returned (.bool true) ∧ Keep (fun _ => False) w w' := by
  have hds := deep_le s
  have hdt := deep_le t
  go_enter Try.func9, Try.ntmps9
  go_wp2_with fail
  refine (speaks_any w).mono ?_
  rintro e w0 ⟨rfl, hK0⟩
  go_wp2_with fail
  refine (Parse_form s hs w0).mono ?_
  rintro e w1 ⟨k1, wd1, A1, n1, c1, pl1, code1, PF1⟩
  obtain rfl := PF1.ending
  have hB1 : Blk (w1.alloc (.cells #[.int .i64 k1, .string wd1, .slice A1 n1 c1] 25)) w1.heap.size 25 [.int .i64 k1, .string wd1, .slice A1 n1 c1] := Blk.new w1 _ [_, _, _]
  have hK1 := (hK0.trans' PF1.keep).alloc (.cells #[.int .i64 k1, .string wd1, .slice A1 n1 c1] 25)
  have hk1 := (Keep.refl (fun _ => False) w1).alloc (.cells #[.int .i64 k1, .string wd1, .slice A1 n1 c1] 25)
  have hz1 : w1.heap.size + 1 = (w1.alloc (.cells #[.int .i64 k1, .string wd1, .slice A1 n1 c1] 25)).heap.size := by simp
  go_wp2_with fail
  generalize w1.alloc (.cells #[.int .i64 k1, .string wd1, .slice A1 n1 c1] 25) = W1 at *
  refine (Parse_form t ht W1).mono ?_
  rintro e w2 ⟨k2, wd2, A2, n2, c2, pl2, code2, PF2⟩
  obtain rfl := PF2.ending
  have hB2 : Blk (w2.alloc (.cells #[.int .i64 k2, .string wd2, .slice A2 n2 c2] 25)) w2.heap.size 25 [.int .i64 k2, .string wd2, .slice A2 n2 c2] := Blk.new w2 _ [_, _, _]
  have hk2 := (Keep.refl (fun _ => False) w2).alloc (.cells #[.int .i64 k2, .string wd2, .slice A2 n2 c2] 25)
  have hk12 := PF2.keep.trans' hk2
  have hK2 := hK1.trans' hk12
  have hz2 : w2.heap.size + 1 = (w2.alloc (.cells #[.int .i64 k2, .string wd2, .slice A2 n2 c2] 25)).heap.size := by simp
  by_cases hc1 : code1 = 0
  · by_cases hc2 : code2 = 0
    · obtain ⟨hpl1, a, ja, hpa, hEa⟩ := PF1.ok hc1
      obtain ⟨hpl2, b, jb, hpb, hEb⟩ := PF2.ok hc2
      subst hc1 hc2 hpl1 hpl2
      by_cases hlen : 251 < s.size + t.size
      · clear PF1 PF2
        go_wp2_with fail
        go_ret
        exact ⟨rfl, hK2⟩
      · by_cases hd1 : 14 < deepv s
        · go_wp2_with fail
          refine (deep_any s hs _).mono ?_
          rintro e w' ⟨rfl, rfl⟩
          go_wp2_with fail
          go_ret
          exact ⟨rfl, hK2⟩
        · by_cases hd2 : 14 < deepv t
          · go_wp2_with fail
            refine (deep_any s hs _).mono ?_
            rintro e w' ⟨rfl, rfl⟩
            go_wp2_with fail
            refine (deep_any t ht _).mono ?_
            rintro e w' ⟨rfl, rfl⟩
            go_wp2_with fail
            go_ret
            exact ⟨rfl, hK2⟩
          · go_wp2_with fail
            refine (deep_any s hs _).mono ?_
            rintro e w' ⟨rfl, rfl⟩
            go_wp2_with fail
            refine (deep_any t ht _).mono ?_
            rintro e w' ⟨rfl, rfl⟩
            go_wp2_with fail
            obtain ⟨hwa, hna⟩ := parse_wgt hpa
            obtain ⟨hwb, hnb⟩ := parse_wgt hpb
            have hEa2 := ExAt.keep (hk1.trans' hk12) (fun _ _ h => h) hEa
            have hEb2 := ExAt.keep hk2 (fun _ _ h => h) hEb
            have hB12 := hB1.keep hk12 (fun h => h)
            generalize w2.alloc (.cells #[.int .i64 k2, .string wd2, .slice A2 n2 c2] 25) = W2 at *
            obtain ⟨j3, hp3⟩ := parse_in (t := ⟨#[40]⟩ ++ s ++ ⟨#[41]⟩) hpa (by omega) (by rw [← bytes_eta s, str_list [40] s.data.toList [41]]; simp) (by simp only [ByteArray.size_append]; show 1 + s.size + 1 ≤ 256; omega)
            obtain ⟨j4, hp4⟩ := parse_two (u := ⟨#[40]⟩ ++ s ++ ⟨#[41, 124, 40]⟩ ++ t ++ ⟨#[41]⟩) hpa hpb (by omega) (by omega) (by rw [← bytes_eta s, ← bytes_eta t]; simp [ByteArray.data_append]) (by simp only [ByteArray.size_append]; show 1 + s.size + 3 + t.size + 1 ≤ 256; omega)
            have hcab : cnt (.node 5 ByteArray.empty [a, b]) = 1 + cnt a + cnt b := by simp only [cnt, cntL]; omega
            have hs3 : (({ data := #[40] } : ByteArray) ++ s ++ { data := #[41] }).size ≤ 140737488351232 := by simp only [ByteArray.size_append]; show 1 + s.size + 1 ≤ _; omega
            have hs4 : (({ data := #[40] } : ByteArray) ++ s ++ { data := #[41, 124, 40] } ++ t ++ { data := #[41] }).size ≤ 140737488351232 := by simp only [ByteArray.size_append]; show 1 + s.size + 3 + t.size + 1 ≤ _; omega
            clear PF1 PF2 hk1 hk2 hk12 hEa hEb hB1 hpa hpb hK1 hK0 hds hdt hz1
            refine (Parse_form _ hs3 W2).mono ?_
            rintro e w3 ⟨k3, wd3, A3, n3, c3, pl3, code3, PF3⟩
            obtain rfl := PF3.ending
            have hc3 : code3 = 0 := by
              by_cases h0 : code3 = 0
              · exact h0
              · have := (PF3.bad h0).1
                rw [hp3] at this
                cases this
            obtain ⟨hpl3, a3, j3', hp3', hEc⟩ := PF3.ok hc3
            rw [hp3] at hp3'
            simp only [R.ok.injEq] at hp3'
            obtain ⟨rfl, rfl⟩ := hp3'
            subst hc3 hpl3
            have hk23 := PF3.keep.alloc (.cells #[.int .i64 k3, .string wd3, .slice A3 n3 c3] 25)
            have hB3 : Blk (w3.alloc (.cells #[.int .i64 k3, .string wd3, .slice A3 n3 c3] 25)) w3.heap.size 25 [.int .i64 k3, .string wd3, .slice A3 n3 c3] := Blk.new w3 _ [_, _, _]
            have hEc3 := ExAt.keep (S := fun _ => False) ((Keep.refl _ w3).alloc (.cells #[.int .i64 k3, .string wd3, .slice A3 n3 c3] 25)) (fun _ _ h => h) hEc
            have hEa3 := ExAt.keep hk23 (fun _ _ h => h) hEa2
            have hEb3 := ExAt.keep hk23 (fun _ _ h => h) hEb2
            have hB13 := hB12.keep hk23 (fun h => h)
            have hB23 := hB2.keep hk23 (fun h => h)
            have hK3 := hK2.trans' hk23
            clear PF3 hp3 hEc hEa2 hEb2 hB12 hB2 hK2 hk23 hs3
            go_wp2_with fail
            generalize w3.alloc (.cells #[.int .i64 k3, .string wd3, .slice A3 n3 c3] 25) = W3 at *
            refine (Parse_form _ hs4 W3).mono ?_
            rintro e w4 ⟨k4, wd4, A4, n4, c4, pl4, code4, PF4⟩
            obtain rfl := PF4.ending
            have hc4 : code4 = 0 := by
              by_cases h0 : code4 = 0
              · exact h0
              · have := (PF4.bad h0).1
                rw [hp4] at this
                cases this
            obtain ⟨hpl4, a4, j4', hp4', hEd⟩ := PF4.ok hc4
            rw [hp4] at hp4'
            simp only [R.ok.injEq] at hp4'
            obtain ⟨rfl, rfl⟩ := hp4'
            subst hc4 hpl4
            obtain ⟨rfl, rfl, h2c, B, off, ka, wa, Aa, na, ca, kb, wb, Ab, nb, cb, rfl, d0, d1, d2, d3, d4, d5, hEx, hEy⟩ := two_at hEd
            have hkz := (Keep.refl (fun _ => False) w4).alloc (.cells #[.int .i64 5, .string wd4, .slice (some ⟨B, off, none⟩) 2 c4] 25)
            have hk34 := PF4.keep.alloc (.cells #[.int .i64 5, .string wd4, .slice (some ⟨B, off, none⟩) 2 c4] 25)
            have hB4 : Blk (w4.alloc (.cells #[.int .i64 5, .string wd4, .slice (some ⟨B, off, none⟩) 2 c4] 25)) w4.heap.size 25 [.int .i64 5, .string wd4, .slice (some ⟨B, off, none⟩) 2 c4] := Blk.new w4 _ [_, _, _]
            have hEd4 := ExAt.keep hkz (fun _ _ h => h) hEd
            have hEx4 := ExAt.keep hkz (fun _ _ h => h) hEx
            have hEy4 := ExAt.keep hkz (fun _ _ h => h) hEy
            have hEc4 := ExAt.keep hk34 (fun _ _ h => h) hEc3
            have hEa4 := ExAt.keep hk34 (fun _ _ h => h) hEa3
            have hEb4 := ExAt.keep hk34 (fun _ _ h => h) hEb3
            have hB14 := hB13.keep hk34 (fun h => h)
            have hB24 := hB23.keep hk34 (fun h => h)
            have hB34 := hB3.keep hk34 (fun h => h)
            have hK4 := hK3.trans' hk34
            have y0 := hkz.cell d0 (fun h => h)
            have y1 := hkz.cell d1 (fun h => h)
            have y2 := hkz.cell d2 (fun h => h)
            have y3 := hkz.cell d3 (fun h => h)
            have y4 := hkz.cell d4 (fun h => h)
            have y5 := hkz.cell d5 (fun h => h)
            have hnd : cnt (.node 5 ByteArray.empty [a, b]) ≤ 1099511627776 := by omega
            have hna' : cnt a ≤ 1099511627776 := by omega
            have hnb' : cnt b ≤ 1099511627776 := by omega
            clear PF4 hp4 hEd hEc3 hEa3 hEb3 hB13 hB23 hB3 hK3 hs4 hEx hEy hk34 hkz d0 d1 d2 d3 d4 d5
            go_wp2_with fail
            generalize w4.alloc (.cells #[.int .i64 5, .string wd4, .slice (some ⟨B, off, none⟩) 2 c4] 25) = W4 at *
            have q0 := hB14.cellAt (i := 0) rfl
            have q1 := hB14.cellAt (i := 1) rfl
            have q2 := hB14.cellAt (i := 2) rfl
            have q3 := hB34.cellAt (i := 0) rfl
            have q4 := hB34.cellAt (i := 1) rfl
            have q5 := hB34.cellAt (i := 2) rfl
            have q6 := hB4.cellAt (i := 0) rfl
            have q7 := hB4.cellAt (i := 1) rfl
            have q8 := hB4.cellAt (i := 2) rfl
            go_region_held3 (fun w' => w'.cell? ⟨w1.heap.size, 0, none⟩ = some (.int .i64 k1) ∧ w'.cell? ⟨w1.heap.size, 1, none⟩ = some (.string wd1) ∧ w'.cell? ⟨w1.heap.size, 2, none⟩ = some (.slice A1 n1 c1) ∧ w'.cell? ⟨w3.heap.size, 0, none⟩ = some (.int .i64 k3) ∧ w'.cell? ⟨w3.heap.size, 1, none⟩ = some (.string wd3) ∧ w'.cell? ⟨w3.heap.size, 2, none⟩ = some (.slice A3 n3 c3) ∧ w'.cell? ⟨w4.heap.size, 0, none⟩ = some (.int .i64 5) ∧ w'.cell? ⟨w4.heap.size, 1, none⟩ = some (.string wd4) ∧ w'.cell? ⟨w4.heap.size, 2, none⟩ = some (.slice (some ⟨B, off, none⟩) 2 c4)) (go_keep)
              (first | (go_at_call 17; refine (showK (W := W4) (e := a) ?_ hwa ?_).mono ?_; (first | exact ⟨_, hEc4⟩ | exact ⟨_, hEa4⟩); (first | exact hKs | exact Keep.drew hKs | exact Keep.drew (Keep.refl _ _) | exact Keep.refl _ _); rintro r w' ⟨rfl, hKs⟩; have g0 := hKs.cell q0 (fun h => h); have g1 := hKs.cell q1 (fun h => h); have g2 := hKs.cell q2 (fun h => h); have g3 := hKs.cell q3 (fun h => h); have g4 := hKs.cell q4 (fun h => h); have g5 := hKs.cell q5 (fun h => h); have g6 := hKs.cell q6 (fun h => h); have g7 := hKs.cell q7 (fun h => h); have g8 := hKs.cell q8 (fun h => h)))
            have hB15 := hB14.keep hKs (fun h => h)
            have hB25 := hB24.keep hKs (fun h => h)
            have hB45 := hB4.keep hKs (fun h => h)
            have hEd5 := ExAt.keep hKs (fun _ _ h => h) hEd4
            have hEx5 := ExAt.keep hKs (fun _ _ h => h) hEx4
            have hEy5 := ExAt.keep hKs (fun _ _ h => h) hEy4
            have hEa5 := ExAt.keep hKs (fun _ _ h => h) hEa4
            have hEb5 := ExAt.keep hKs (fun _ _ h => h) hEb4
            have hK5 := hK4.trans' hKs
            have z9 := hKs.cell y0 (fun h => h)
            have z10 := hKs.cell y1 (fun h => h)
            have z11 := hKs.cell y2 (fun h => h)
            have z12 := hKs.cell y3 (fun h => h)
            have z13 := hKs.cell y4 (fun h => h)
            have z14 := hKs.cell y5 (fun h => h)
            have z0 := hB15.cellAt (i := 0) rfl
            have z1 := hB15.cellAt (i := 1) rfl
            have z2 := hB15.cellAt (i := 2) rfl
            have z3 := hB25.cellAt (i := 0) rfl
            have z4 := hB25.cellAt (i := 1) rfl
            have z5 := hB25.cellAt (i := 2) rfl
            have z6 := hB45.cellAt (i := 0) rfl
            have z7 := hB45.cellAt (i := 1) rfl
            have z8 := hB45.cellAt (i := 2) rfl
            clear hEc4 hEd4 hEx4 hEy4 hEa4 hEb4 hK4 y0 y1 y2 y3 y4 y5 q0 q1 q2 q3 q4 q5 q6 q7 q8 hB14 hB24 hB34 hB4 hB15 hB25 hB45
            go_wp2_with fail
            clear hKs
            generalize w' = W5 at *
            have u1 : IntKind.i64.wrap (1 + (cnt a : Int)) = 1 + (cnt a : Int) := by rw [IntKind.wrap_i64]; omega
            have u2 : IntKind.i64.wrap (1 + (cnt a : Int) + (cnt b : Int)) = 1 + (cnt a : Int) + (cnt b : Int) := by rw [IntKind.wrap_i64]; omega
            have u3 : ((cnt (.node 5 ByteArray.empty [a, b]) : Int) == 1 + (cnt a : Int) + (cnt b : Int)) = true := by rw [hcab]; simp
            go_region_held3 (fun w' => w'.cell? ⟨w1.heap.size, 0, none⟩ = some (.int .i64 k1) ∧ w'.cell? ⟨w1.heap.size, 1, none⟩ = some (.string wd1) ∧ w'.cell? ⟨w1.heap.size, 2, none⟩ = some (.slice A1 n1 c1) ∧ w'.cell? ⟨w2.heap.size, 0, none⟩ = some (.int .i64 k2) ∧ w'.cell? ⟨w2.heap.size, 1, none⟩ = some (.string wd2) ∧ w'.cell? ⟨w2.heap.size, 2, none⟩ = some (.slice A2 n2 c2) ∧ w'.cell? ⟨w4.heap.size, 0, none⟩ = some (.int .i64 5) ∧ w'.cell? ⟨w4.heap.size, 1, none⟩ = some (.string wd4) ∧ w'.cell? ⟨w4.heap.size, 2, none⟩ = some (.slice (some ⟨B, off, none⟩) 2 c4) ∧ w'.cell? ⟨B, off, none⟩ = some (.int .i64 ka) ∧ w'.cell? ⟨B, off + 1, none⟩ = some (.string wa) ∧ w'.cell? ⟨B, off + 2, none⟩ = some (.slice Aa na ca) ∧ w'.cell? ⟨B, off + 3, none⟩ = some (.int .i64 kb) ∧ w'.cell? ⟨B, off + 3 + 1, none⟩ = some (.string wb) ∧ w'.cell? ⟨B, off + 3 + 2, none⟩ = some (.slice Ab nb cb)) (go_keep)
              (first
                | (go_at_call 17; refine (showK (W := W5) (e := a) ?_ hwa ?_).mono ?_; (first | exact ⟨_, hEx5⟩ | exact ⟨_, hEa5⟩); (first | exact hKs | exact Keep.drew hKs | exact Keep.drew (Keep.refl _ _) | exact Keep.refl _ _); rintro r w' ⟨rfl, hKs⟩; have g0 := hKs.cell z0 (fun h => h); have g1 := hKs.cell z1 (fun h => h); have g2 := hKs.cell z2 (fun h => h); have g3 := hKs.cell z3 (fun h => h); have g4 := hKs.cell z4 (fun h => h); have g5 := hKs.cell z5 (fun h => h); have g6 := hKs.cell z6 (fun h => h); have g7 := hKs.cell z7 (fun h => h); have g8 := hKs.cell z8 (fun h => h); have g9 := hKs.cell z9 (fun h => h); have g10 := hKs.cell z10 (fun h => h); have g11 := hKs.cell z11 (fun h => h); have g12 := hKs.cell z12 (fun h => h); have g13 := hKs.cell z13 (fun h => h); have g14 := hKs.cell z14 (fun h => h))
                | (go_at_call 17; refine (showK (W := W5) (e := b) ?_ hwb ?_).mono ?_; (first | exact ⟨_, hEy5⟩ | exact ⟨_, hEb5⟩); (first | exact hKs | exact Keep.drew hKs | exact Keep.drew (Keep.refl _ _) | exact Keep.refl _ _); rintro r w' ⟨rfl, hKs⟩; have g0 := hKs.cell z0 (fun h => h); have g1 := hKs.cell z1 (fun h => h); have g2 := hKs.cell z2 (fun h => h); have g3 := hKs.cell z3 (fun h => h); have g4 := hKs.cell z4 (fun h => h); have g5 := hKs.cell z5 (fun h => h); have g6 := hKs.cell z6 (fun h => h); have g7 := hKs.cell z7 (fun h => h); have g8 := hKs.cell z8 (fun h => h); have g9 := hKs.cell z9 (fun h => h); have g10 := hKs.cell z10 (fun h => h); have g11 := hKs.cell z11 (fun h => h); have g12 := hKs.cell z12 (fun h => h); have g13 := hKs.cell z13 (fun h => h); have g14 := hKs.cell z14 (fun h => h))
                | (go_at_call 47; refine (sizeK (W := W5) (e := (.node 5 ByteArray.empty [a, b])) ?_ hnd ?_).mono ?_; (first | exact ⟨_, hEd5⟩); (first | exact hKs | exact Keep.drew hKs | exact Keep.drew (Keep.refl _ _) | exact Keep.refl _ _); rintro r w' ⟨rfl, hKs⟩; have g0 := hKs.cell z0 (fun h => h); have g1 := hKs.cell z1 (fun h => h); have g2 := hKs.cell z2 (fun h => h); have g3 := hKs.cell z3 (fun h => h); have g4 := hKs.cell z4 (fun h => h); have g5 := hKs.cell z5 (fun h => h); have g6 := hKs.cell z6 (fun h => h); have g7 := hKs.cell z7 (fun h => h); have g8 := hKs.cell z8 (fun h => h); have g9 := hKs.cell z9 (fun h => h); have g10 := hKs.cell z10 (fun h => h); have g11 := hKs.cell z11 (fun h => h); have g12 := hKs.cell z12 (fun h => h); have g13 := hKs.cell z13 (fun h => h); have g14 := hKs.cell z14 (fun h => h))
                | (go_at_call 47; refine (sizeK (W := W5) (e := a) ?_ hna' ?_).mono ?_; (first | exact ⟨_, hEa5⟩); (first | exact hKs | exact Keep.drew hKs | exact Keep.drew (Keep.refl _ _) | exact Keep.refl _ _); rintro r w' ⟨rfl, hKs⟩; have g0 := hKs.cell z0 (fun h => h); have g1 := hKs.cell z1 (fun h => h); have g2 := hKs.cell z2 (fun h => h); have g3 := hKs.cell z3 (fun h => h); have g4 := hKs.cell z4 (fun h => h); have g5 := hKs.cell z5 (fun h => h); have g6 := hKs.cell z6 (fun h => h); have g7 := hKs.cell z7 (fun h => h); have g8 := hKs.cell z8 (fun h => h); have g9 := hKs.cell z9 (fun h => h); have g10 := hKs.cell z10 (fun h => h); have g11 := hKs.cell z11 (fun h => h); have g12 := hKs.cell z12 (fun h => h); have g13 := hKs.cell z13 (fun h => h); have g14 := hKs.cell z14 (fun h => h))
                | (go_at_call 47; refine (sizeK (W := W5) (e := b) ?_ hnb' ?_).mono ?_; (first | exact ⟨_, hEb5⟩); (first | exact hKs | exact Keep.drew hKs | exact Keep.drew (Keep.refl _ _) | exact Keep.refl _ _); rintro r w' ⟨rfl, hKs⟩; have g0 := hKs.cell z0 (fun h => h); have g1 := hKs.cell z1 (fun h => h); have g2 := hKs.cell z2 (fun h => h); have g3 := hKs.cell z3 (fun h => h); have g4 := hKs.cell z4 (fun h => h); have g5 := hKs.cell z5 (fun h => h); have g6 := hKs.cell z6 (fun h => h); have g7 := hKs.cell z7 (fun h => h); have g8 := hKs.cell z8 (fun h => h); have g9 := hKs.cell z9 (fun h => h); have g10 := hKs.cell z10 (fun h => h); have g11 := hKs.cell z11 (fun h => h); have g12 := hKs.cell z12 (fun h => h); have g13 := hKs.cell z13 (fun h => h); have g14 := hKs.cell z14 (fun h => h)))
            all_goals (go_wp2_with fail)
            all_goals go_ret
            all_goals exact ⟨rfl, hK5.trans' hKs⟩
    · have hcf1 : ((code2 : Int) == 0) = false := by simpa using (by omega : ¬ (code2 : Int) = 0)
      subst hc1
      clear PF1 PF2
      go_wp2_with fail
      go_ret
      exact ⟨rfl, hK2⟩
  · have hcf1 : ((code1 : Int) == 0) = false := by simpa using (by omega : ¬ (code1 : Int) = 0)
    clear PF1 PF2
    go_wp2_with fail
    go_ret
    exact ⟨rfl, hK2⟩
end Ex
end Go.Proofs.Ytfgkcifkfokoiaa
