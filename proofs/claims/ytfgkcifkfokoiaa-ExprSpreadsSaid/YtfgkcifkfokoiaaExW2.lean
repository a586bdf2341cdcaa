/- The walks through row, begins and the recursive functions of the parser of package expr: they come to what reading in plain Lean comes to. -/
import Derived.Test.YtfgkcifkfokoiaaExW1
import Derived.Test.YtfgkcifkfokoiaaExR
import Derived.Test.YtfgkcifkfokoiaaShelf
set_option linter.unusedVariables false
set_option linter.unusedSimpArgs false
namespace Go.Proofs.Ytfgkcifkfokoiaa
open Go.RowKit
namespace Ex

theorem begins_eq (c : Nat) : begins c = decide (wordly c = true ∨ c = 64 ∨ c = 35 ∨ c = 40) := by
  unfold begins
  rw [Bool.eq_iff_iff]
  simp [or_assoc]
set_option maxHeartbeats 400000 in
theorem begins_any (c : Nat) (hc : c < 256) (w : World) :
    Calls Try.prog 163 #[.int .u8 (c : Nat)] w fun e w' => e = .returned (.bool (begins c)) ∧ ∃ n, w' = w.drewN n := by
  have hw : ∃ b, b = begins c := ⟨_, rfl⟩
  obtain ⟨b, hb⟩ := hw
  rw [← hb]
  have Hb := hid hb
  clear hb
  cases hwd : wordly c with
  | true =>
    go_enter Try.func163, Try.ntmps163
    go_wp2_with fail
    refine (wordly_any c hc _).mono ?_
    rintro e w' ⟨rfl, rfl⟩
    rw [hwd]
    go_wp2_with fail
    go_ret
    exact ⟨by rw [Hb.out, begins_eq, hwd]; rfl, 0, rfl⟩
  | false =>
    go_enter Try.func163, Try.ntmps163
    go_wp2_with fail
    refine (wordly_any c hc _).mono ?_
    rintro e w' ⟨rfl, rfl⟩
    rw [hwd]
    go_wp2_with fail
    all_goals
      go_ret
      exact ⟨by rw [Hb.out, begins_eq, hwd]; show Ending.returned (.bool _) = Ending.returned (.bool _); refine congrArg _ (congrArg _ ?_); rw [Bool.eq_iff_iff]; first | (simp; omega) | (simp; done), 0, rfl⟩

theorem expr_info : (Try.prog.info? 25).map (fun i => (i.zero, i.size, i.bytes)) = some (some (.agg #[.int .i64 0, .string ByteArray.empty, .slice none 0 0]), 3, 48) := by kernel_rfl

set_option maxHeartbeats 400000 in
theorem row_any (k : Nat) (hk : k ≤ 9) (kd : Nat) (hkd : kd = kindOf k) (kv : Value) (l : List ET) (cs : List Value) (ok : Nat → Prop) (w : World) (hr : Rd w ok kv 3 cs) (hl : KsAt w ok l cs) (h0 : l ≠ []) :
    Calls Try.prog 149 #[.int .i64 (kd : Int), kv] w fun e w' => ∃ v, e = .returned v ∧ ExAt w' ok (row k l) v ∧ Keep (fun _ => False) w w' := by
  subst hkd
  obtain ⟨A, n, c, rfl, hlen, hnc, hm, hcells⟩ := id hr
  have hl3 := hl.length
  have hn : l.length = n := by omega
  match l, h0, hn with
  | [e], _, hn =>
    simp only [KsAt] at hl
    obtain ⟨a, b, c', rest, rfl, he, hrest⟩ := hl
    obtain ⟨B, off, rfl, hok, hcell⟩ := hcells (by simp at hn; omega)
    simp at hn
    subst hn
    obtain ⟨k0, wd, A0, n0, c0, hv⟩ := he.form
    simp at hv
    obtain ⟨rfl, rfl, rfl⟩ := hv
    have h1 := cell_alloc (show w.cell? ⟨B, off, none⟩ = some _ from hcell 0 _ rfl)
    have h2 := cell_alloc (hcell 1 _ rfl)
    have h3 := cell_alloc (hcell 2 _ rfl)
    go_enter Try.func149, Try.ntmps149
    go_wp2_with fail
    exact bodyPost_ret (v := .agg #[.int .i64 k0, .string wd, .slice A0 n0 c0]) (by simp [results, Try.results149, go_sem]) rfl ⟨_, rfl, he.keep (S := fun _ => False) ((Keep.refl _ w).alloc _) (fun _ _ h => h), (Keep.refl _ w).alloc _⟩
  | e1 :: e2 :: l, _, hn =>
    have hne : ((n : Int) == 1) = false := by simp at hn; simp; omega
    go_enter Try.func149, Try.ntmps149
    go_wp2_with fail
    have hK : Keep (fun _ => False) w (w.alloc (.cells #[.int .i64 (kindOf k : Nat), .string ⟨#[]⟩, .slice A n c] 25)) := (Keep.refl _ w).alloc _
    exact bodyPost_ret (v := .agg #[.int .i64 (kindOf k : Nat), .string ⟨#[]⟩, .slice A n c]) (by simp [results, Try.results149, go_sem]) rfl ⟨_, rfl, by exact ExAt.over (hr.keep hK (fun _ _ h => h)) (hl.keep hK (fun _ _ h => h)), hK⟩
end Ex
end Go.Proofs.Ytfgkcifkfokoiaa
