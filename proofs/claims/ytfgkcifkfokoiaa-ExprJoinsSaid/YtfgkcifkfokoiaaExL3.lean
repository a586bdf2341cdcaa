/- The walk through ExprBlanks. -/
import Derived.Test.YtfgkcifkfokoiaaExL1
import Derived.Test.YtfgkcifkfokoiaaExB2
set_option linter.unusedVariables false
set_option linter.unusedSimpArgs false
namespace Go.Proofs.Ytfgkcifkfokoiaa
open Go.RowKit
namespace Ex
def bls (m : Nat) : ByteArray := ⟨(List.replicate m 32).toArray⟩
theorem bls_slice : ∀ m, m < 5 → (({ data := #[32, 32, 32, 32] } : ByteArray).extract 0 m).data.toList = (bls m).data.toList := by decide +kernel
theorem mod5 (a : Int) : ∃ m : Nat, m < 5 ∧ (wrap64 (a.tmod 5 + 5)).tmod 5 = (m : Int) := by
  have h1 := Int.tmod_lt_of_pos a (show (0 : Int) < 5 by decide)
  have h2 : -5 < a.tmod 5 := by
    by_cases h0 : 0 ≤ a
    · have := Int.tmod_nonneg 5 h0; omega
    · have := Int.tmod_lt_of_pos (-a) (show (0 : Int) < 5 by decide)
      rw [Int.neg_tmod] at this
      omega
  have h3 : wrap64 (a.tmod 5 + 5) = a.tmod 5 + 5 := by unfold wrap64; omega
  rw [h3, Int.tmod_eq_emod_of_nonneg (by omega)]
  exact ⟨((a.tmod 5 + 5) % 5).toNat, by omega, by omega⟩
theorem one_byte (s : ByteArray) (q : Nat) (x : UInt8) (h : s.data.toList[q]? = some x) : s.extract q (q + 1) = ⟨#[x]⟩ := by
  rw [← bytes_eta (s.extract q (q + 1))]
  have : (s.extract q (q + 1)).data.toList = [x] := by
    rw [ByteArray.data_extract, Array.toList_extract, List.extract_eq_take_drop]
    rw [show q + 1 - q = 1 from by omega]
    obtain ⟨hq, hx⟩ := List.getElem?_eq_some_iff.1 h
    rw [List.drop_eq_getElem_cons hq, hx]
    rfl
  rw [this]
/-- What is told after k bytes. -/
def told (m : Nat) (s : ByteArray) (k : Nat) : ByteArray := ⟨(List.replicate m 32 ++ (s.data.toList.take k).flatMap (inB m)).toArray⟩
theorem told_zero (m : Nat) (s : ByteArray) : told m s 0 = bls m := by simp [told, bls]
theorem told_succ (m : Nat) (s : ByteArray) (k : Nat) (x : UInt8) (h : s.data.toList[k]? = some x) : told m s (k + 1) = told m s k ++ ⟨(inB m x).toArray⟩ := by
  unfold told
  rw [bs_append, List.take_add_one, h]
  simp
theorem told_end (m : Nat) (s : ByteArray) : (told m s s.size ++ bls m).data.toList = List.replicate m 32 ++ spr m s.data.toList := by
  unfold told bls spr
  rw [bs_append, List.take_of_length_le (by simp)]
  simp
theorem told_size (m : Nat) (hm : m < 5) (s : ByteArray) (k : Nat) : (told m s k).size ≤ 4 + 9 * k := by
  have : (told m s k).size = (List.replicate m 32 ++ (s.data.toList.take k).flatMap (inB m)).length := by simp [told, ByteArray.size]
  rw [this]
  have h6 : ∀ l : List UInt8, (l.flatMap (inB m)).length ≤ 9 * l.length := by
    intro l
    induction l with
    | nil => simp
    | cons c l ih =>
      have : (inB m c).length ≤ 9 := by unfold inB; split <;> simp <;> omega
      simp only [List.flatMap_cons, List.length_append, List.length_cons]
      omega
  have := h6 (s.data.toList.take k)
  have h7 := List.length_take_le k s.data.toList
  simp only [List.length_append, List.length_replicate]
  omega
theorem showAt {W W' : World} {e : ET} {v : Value} (hw : wgt e ≤ 1099511627776) {b1 b2 : Nat} {T1 T2 : TypeId} {c1 c2 : List Value} (h1 : Blk W b1 T1 c1) (h2 : Blk W b2 T2 c2) (hE : ∃ ok, ExAt W ok e v) (hK : Keep (fun _ => False) W W') :
    Calls Try.prog 17 #[v] W' fun r w' => r = .returned (.string ⟨(sh e).toArray⟩) ∧ Keep (fun _ => False) W w' ∧ Blk w' b1 T1 c1 ∧ Blk w' b2 T2 c2 := by
  obtain ⟨ok, hE⟩ := hE
  refine (Show_any e W' ok v (ExAt.keep hK (fun _ _ h => h) hE) hw).mono ?_
  rintro r w' ⟨rfl, h⟩
  have hk := hK.trans' h
  exact ⟨rfl, hk, h1.keep hk (fun h => h), h2.keep hk (fun h => h)⟩

set_option maxRecDepth 100000 in
set_option maxHeartbeats 1000000 in
theorem ExprBlanks_any (s : ByteArray) (hs : s.size ≤ 140737488351232) (a : Int) (h : (Lit.int .i64 a).wf = true) (w : World) : Calls Try.prog 5 #[.string s, .int .i64 a] w fun e w' => e = .returned (.bool true) ∧ Keep (fun _ => False) w w' := by
  obtain ⟨m, hm, hb⟩ := mod5 a
  have hbl : ({ data := #[32, 32, 32, 32] } : ByteArray).extract 0 m = bls m := by rw [← bytes_eta (ByteArray.extract _ 0 m), bls_slice m hm, bytes_eta]
  have hbs : (bls m).size ≤ 4 := by have : (bls m).size = m := by simp [bls, ByteArray.size]
                                    omega
  go_enter Try.func5, Try.ntmps5
  go_wp2_with fail
  refine (speaks_any w).mono ?_
  rintro e w0 ⟨rfl, hK0⟩
  go_wp2_with fail
  refine (Parse_form s hs w0).mono ?_
  rintro e w1 ⟨k, wd, A, n, c, pl, code, PF1⟩
  obtain rfl := PF1.ending
  go_wp2_with fail
  go_loopg [9, 10] s.size (fun g v i wr => ∃ q, q ≤ s.size ∧ g = s.size - q ∧ i = .int .i64 (q : Int) ∧ v = .string (told m s q) ∧ wr = w1.alloc (.cells #[.int .i64 k, .string wd, .slice A n c] 25))
  case atStart => exact ⟨0, Nat.zero_le _, rfl, rfl, by rw [told_zero], rfl⟩
  case round =>
    obtain ⟨q, hq, hg, rfl, rfl, rfl⟩ := hrel
    have Hg := hid hg
    clear hg hb
    have hts := told_size m hm s q
    by_cases hlt : q < s.size
    · obtain ⟨x, hx⟩ : ∃ x, s.data.toList[q]? = some x := ⟨s.data.toList[q]'(by simpa using hlt), List.getElem?_eq_getElem _⟩
      have hex := one_byte s q x hx
      have Hts := hid (told_succ m s q x hx)
      cases hsg : signB x with
      | true =>
        have hin : (⟨(inB m x).toArray⟩ : ByteArray) = bls m ++ ⟨#[x]⟩ ++ bls m := by
          unfold inB bls
          rw [if_pos hsg, show (⟨#[x]⟩ : ByteArray) = ⟨[x].toArray⟩ from rfl, bs_append, bs_append]
          simp
        have Hin := hid hin
        have h4 : x = 124 ∨ x = 38 ∨ x = 40 ∨ x = 41 := by simpa [signB, or_assoc] using hsg
        clear hin hsg hx
        rcases h4 with rfl | rfl | rfl | rfl
        all_goals
          go_wp2_with fail
          go_roundg (s.size - (q + 1))
          case measure => have := Hg.out; omega
          case rel => exact ⟨q + 1, by omega, rfl, rfl, by rw [Hts.out, Hin.out], rfl⟩
      | false =>
        have hin : (⟨(inB m x).toArray⟩ : ByteArray) = ⟨#[x]⟩ := by
          unfold inB
          rw [if_neg (by simp [hsg])]
        have Hin := hid hin
        obtain ⟨⟨⟨x1, x2⟩, x3⟩, x4⟩ : (((x == 124) = false ∧ (x == 38) = false) ∧ (x == 40) = false) ∧ (x == 41) = false := by simpa [signB] using hsg
        clear hin hsg hx
        go_wp2_with fail
        go_roundg (s.size - (q + 1))
        case measure => have := Hg.out; omega
        case rel => exact ⟨q + 1, by omega, rfl, rfl, by rw [Hts.out, Hin.out], rfl⟩
    · have hqe : q = s.size := by omega
      subst hqe
      by_cases hcode : code = 0
      · obtain ⟨hpl, ea, ej, hpa, hE⟩ := PF1.ok hcode
        obtain ⟨hwg, -⟩ := parse_wgt hpa
        have Htm := hid (told_end m s)
        subst hcode hpl
        have hK1 := (hK0.trans' PF1.keep).alloc (.cells #[.int .i64 k, .string wd, .slice A n c] 25)
        have hB1 : Blk (w1.alloc (.cells #[.int .i64 k, .string wd, .slice A n c] 25)) w1.heap.size 25 [.int .i64 k, .string wd, .slice A n c] := Blk.new w1 _ [_, _, _]
        have hE1 := ExAt.keep (S := fun _ => False) ((Keep.refl _ w1).alloc (.cells #[.int .i64 k, .string wd, .slice A n c] 25)) (fun _ _ h => h) hE
        have hsz1 : w1.heap.size < (w1.alloc (.cells #[.int .i64 k, .string wd, .slice A n c] 25)).heap.size := by simp
        clear hE PF1
        generalize w1.alloc (.cells #[.int .i64 k, .string wd, .slice A n c] 25) = W at *
        by_cases hlong : 256 < (told m s s.size).size + (bls m).size
        · go_wp2_with fail
          go_ret
          exact ⟨rfl, hK1⟩
        · have htsz : (told m s s.size ++ bls m).size ≤ 256 := by rw [ByteArray.size_append]; omega
          obtain ⟨j', hpt⟩ := parse_spr m hpa Htm.out htsz
          go_wp2_with fail
          refine (Parse_form (told m s s.size ++ bls m) (by omega) W).mono ?_
          rintro e w2 ⟨k2, wd2, A2, n2, c2, pl2, code2, PF2⟩
          obtain rfl := PF2.ending
          have hc2 : code2 = 0 := by
            by_cases h0 : code2 = 0
            · exact h0
            · have := (PF2.bad h0).1
              rw [hpt] at this
              cases this
          obtain ⟨hpl2, ea2, ej2, hpa2, hE2⟩ := PF2.ok hc2
          rw [hpt] at hpa2
          simp only [R.ok.injEq] at hpa2
          obtain ⟨rfl, rfl⟩ := hpa2
          subst hc2 hpl2
          have hK2 := PF2.keep.alloc (.cells #[.int .i64 k2, .string wd2, .slice A2 n2 c2] 25)
          have hBe := hB1.keep hK2 (fun h => h)
          have hBf : Blk (w2.alloc (.cells #[.int .i64 k2, .string wd2, .slice A2 n2 c2] 25)) w2.heap.size 25 [.int .i64 k2, .string wd2, .slice A2 n2 c2] := Blk.new w2 _ [_, _, _]
          have hEe := ExAt.keep hK2 (fun _ _ h => h) hE1
          have hEf := ExAt.keep (S := fun _ => False) ((Keep.refl _ w2).alloc (.cells #[.int .i64 k2, .string wd2, .slice A2 n2 c2] 25)) (fun _ _ h => h) hE2
          have hK3 := hK1.trans' hK2
          have q0 := hBe.cellAt (i := 0) rfl
          have q1 := hBe.cellAt (i := 1) rfl
          have q2 := hBe.cellAt (i := 2) rfl
          have r0 := hBf.cellAt (i := 0) rfl
          have r1 := hBf.cellAt (i := 1) rfl
          have r2 := hBf.cellAt (i := 2) rfl
          have hsz2 := PF2.keep.size
          clear hE2 PF2 hpt hpa hE1 hB1 hts hlong
          go_wp2_with fail
          go_region_held3 (fun w' => w'.cell? ⟨w1.heap.size, 0, none⟩ = some (.int .i64 k) ∧ w'.cell? ⟨w1.heap.size, 1, none⟩ = some (.string wd) ∧ w'.cell? ⟨w1.heap.size, 2, none⟩ = some (.slice A n c) ∧ w'.cell? ⟨w2.heap.size, 0, none⟩ = some (.int .i64 k2) ∧ w'.cell? ⟨w2.heap.size, 1, none⟩ = some (.string wd2) ∧ w'.cell? ⟨w2.heap.size, 2, none⟩ = some (.slice A2 n2 c2)) (go_keep)
            (first | (go_at_call 17; refine (showAt hwg hBe hBf ?_ ?_).mono ?_; (first | exact ⟨_, hEf⟩ | exact ⟨_, hEe⟩); (first | exact hKs | exact Keep.drew hKs | exact Keep.drew (Keep.refl _ _) | exact Keep.refl _ _); rintro r w' ⟨rfl, hKs, hb1, hb2⟩; have g0 := hb1.cellAt (i := 0) rfl; have g1 := hb1.cellAt (i := 1) rfl; have g2 := hb1.cellAt (i := 2) rfl; have g3 := hb2.cellAt (i := 0) rfl; have g4 := hb2.cellAt (i := 1) rfl; have g5 := hb2.cellAt (i := 2) rfl))
          all_goals (go_wp2_with fail)
          all_goals go_ret
          all_goals exact ⟨rfl, hK3.trans' hKs⟩
      · have hcf : ((code : Int) == 0) = false := by simpa using (by omega : ¬ (code : Int) = 0)
        go_wp2_with fail
        go_ret
        exact ⟨rfl, (hK0.trans' PF1.keep).alloc _⟩
end Ex
end Go.Proofs.Ytfgkcifkfokoiaa
