/- The walk through ExprNests. -/
import Derived.Test.YtfgkcifkfokoiaaExL1
set_option linter.unusedVariables false
set_option linter.unusedSimpArgs false
namespace Go.Proofs.Ytfgkcifkfokoiaa
open Go.RowKit
namespace Ex
def nestS : Nat → ByteArray
  | 0 => ⟨#[97]⟩
  | n + 1 => ⟨#[40]⟩ ++ nestS n ++ ⟨#[41]⟩
def nestOk (n : Nat) : Bool := match parse (nestS n) with
  | .ok (.node k w _) _ => n ≤ 16 && k == 1 && w.data.toList == [97]
  | .bad a c => decide (16 < n) && a == 16 && c == 5
theorem nest_all : ∀ n, n < 32 → nestOk n = true := by decide +kernel

theorem and31 (a : Int) : ∃ m : Nat, m < 32 ∧ bits .and .i64 a 31 = (m : Int) := by
  have h : (BitVec.ofInt 64 a &&& BitVec.ofInt 64 31).toNat < 32 := by
    rw [BitVec.toNat_and]
    have h1 : (BitVec.ofInt 64 31).toNat = 31 := by decide
    have := Nat.and_le_right (n := (BitVec.ofInt 64 a).toNat) (m := (BitVec.ofInt 64 31).toNat)
    omega
  refine ⟨(BitVec.ofInt 64 a &&& BitVec.ofInt 64 31).toNat, h, ?_⟩
  show IntKind.i64.wrap (((BitVec.ofInt 64 a &&& BitVec.ofInt 64 31).toNat : Nat) : Int) = _
  simp only [IntKind.wrap_i64]
  omega
theorem nestS_size : ∀ n, (nestS n).size = 2 * n + 1
  | 0 => rfl
  | n + 1 => by
    have := nestS_size n
    simp only [nestS, ByteArray.size_append, this]
    show 1 + (2 * n + 1) + 1 = _
    omega
def nestR (n : Nat) : R ET → Prop
  | .ok t _ => n ≤ 16 ∧ ∃ l, t = .node 1 ⟨#[97]⟩ l
  | .bad a c => 16 < n ∧ a = 16 ∧ c = 5
theorem nest_res (n : Nat) (h : n < 32) : nestR n (parse (nestS n)) := by
  have h1 := nest_all n h
  unfold nestOk at h1
  cases hp : parse (nestS n) with
  | ok t j =>
    obtain ⟨k, w, l⟩ := t
    rw [hp] at h1
    simp only [Bool.and_eq_true, decide_eq_true_eq, beq_iff_eq] at h1
    obtain ⟨⟨h1, h2⟩, h3⟩ := h1
    exact ⟨h1, l, by rw [h2, ← bytes_eta w, h3]⟩
  | bad a c =>
    rw [hp] at h1
    simp only [Bool.and_eq_true, decide_eq_true_eq, beq_iff_eq] at h1
    exact ⟨h1.1.1, h1.1.2, h1.2⟩

set_option maxRecDepth 100000 in
set_option maxHeartbeats 1000000 in
theorem ExprNests_any (a : Int) (w : World) : Calls Try.prog 4 #[.int .i64 a] w fun e w' => e = .returned (.bool true) ∧ Keep (fun _ => False) w w' := by
  obtain ⟨m, hm, hb⟩ := and31 a
  go_enter Try.func4, Try.ntmps4
  go_wp2_with fail
  refine (speaks_any w).mono ?_
  rintro e w0 ⟨rfl, hK0⟩
  go_wp2_with fail
  clear hb
  go_loopg [3, 4] m (fun g v i wr => ∃ k, k ≤ m ∧ g = m - k ∧ i = .int .i64 (k : Int) ∧ v = .string (nestS k) ∧ wr = w0)
  case atStart => exact ⟨0, Nat.zero_le _, rfl, rfl, rfl, rfl⟩
  case round =>
    obtain ⟨k, hkm, hg, rfl, rfl, rfl⟩ := hrel
    have Hg := hid hg
    clear hg
    have hsz := nestS_size k
    by_cases hlt : k < m
    · go_wp2_with fail
      go_roundg (m - (k + 1))
      case measure => have := Hg.out; omega
      case rel => exact ⟨k + 1, by omega, rfl, by congr 1, rfl, rfl⟩
    · have hke : k = m := by omega
      subst hke
      have hres := nest_res k hm
      go_wp2_with fail
      refine (Parse_any (nestS k) (by omega) _).mono ?_
      rintro e w1 hP
      cases hp : parse (nestS k) with
      | ok t j =>
        rw [hp] at hP hres
        obtain ⟨h16, l, rfl⟩ := hres
        obtain ⟨v, rfl, hE, hK⟩ := hP
        obtain ⟨wd, A, n, c, rfl⟩ := hE.kind
        simp only [ExAt] at hE
        obtain ⟨kv', cs', hv, -⟩ := hE
        simp at hv
        obtain ⟨-, rfl, -⟩ := hv
        go_wp2_with fail
        go_ret
        exact ⟨rfl, (hK0.trans' hK).alloc _⟩
      | bad a c =>
        rw [hp] at hP hres
        obtain ⟨h16, rfl, rfl⟩ := hres
        obtain ⟨rfl, hK⟩ := hP
        go_wp2_with fail
        go_ret
        exact ⟨rfl, (hK0.trans' hK).alloc _⟩
end Ex
theorem nestsWalk (a : Int) (h : (Lit.int .i64 a).wf = true) (w : World) : Calls Try.prog 4 #[.int .i64 a] w fun e w' => e = .returned (.bool true) ∧ Keep (fun _ => False) w w' := Ex.ExprNests_any a w
end Go.Proofs.Ytfgkcifkfokoiaa
