/- The walk through speaks of the laws of layer 14. -/
import Derived.Test.YtfgkcifkfokoiaaExV2
import Derived.Test.YtfgkcifkfokoiaaExW6
set_option linter.unusedVariables false
set_option linter.unusedSimpArgs false
namespace Go.Proofs.Ytfgkcifkfokoiaa
open Go.RowKit
namespace Ex
def ab : ByteArray := ⟨#[97, 32, 40, 98, 124, 99, 41, 42, 32, 38, 32, 35, 116, 101, 120, 116]⟩
def abT : ET := .node 6 ⟨#[]⟩ [.node 4 ⟨#[]⟩ [.node 1 ⟨#[97]⟩ [], .node 7 ⟨#[]⟩ [.node 5 ⟨#[]⟩ [.node 1 ⟨#[98]⟩ [], .node 1 ⟨#[99]⟩ []]]], .node 3 ⟨#[]⟩ []]
theorem ab_parse : parse ab = .ok abT 16 := by kernel_rfl
theorem ab_sh : sh abT = [97, 32, 40, 98, 124, 99, 41, 42, 38, 35, 116, 101, 120, 116] := by kernel_rfl
theorem ab_wgt : wgt abT ≤ 1099511627776 := by decide +kernel

set_option maxRecDepth 100000 in
set_option maxHeartbeats 1000000 in
theorem speaks_any (w : World) : Calls Try.prog 13 #[] w fun e w' => e = .returned (.bool true) ∧ Keep (fun _ => False) w w' := by
  have hp := Parse_any ab (by decide) w
  rw [ab_parse] at hp
  go_enter Try.func13, Try.ntmps13
  go_wp2_with fail
  refine hp.mono ?_
  rintro e w1 ⟨v, rfl, hE, hK⟩
  obtain ⟨kv, cs, rfl, ⟨A, n, c, rfl, hl, _⟩, hks⟩ := (show ∃ kv cs, v = .agg #[.int .i64 ((6 : Nat) : Int), .string ⟨#[]⟩, kv] ∧ Rd w1 _ kv 3 cs ∧ KsAt w1 _ _ cs from by simpa only [abT, ExAt] using hE)
  have hn : n = 2 := by have := hks.length; simp at this; omega
  subst hn
  have hE1 := ExAt.keep (S := fun _ => False) ((Keep.refl _ w1).alloc (.cells #[.int .i64 6, .string ⟨#[]⟩, .slice A 2 c] 25)) (fun _ _ h => h) hE
  have hSh := Show_any abT _ _ _ hE1 ab_wgt
  rw [ab_sh] at hSh
  have HK := hid (hK.alloc (.cells #[.int .i64 6, .string ⟨#[]⟩, .slice A 2 c] 25))
  clear hE hks hE1 hl hp hK
  go_wp2_with fail
  refine hSh.mono ?_
  rintro e w2 ⟨rfl, hK2⟩
  go_wp2_with fail
  go_ret
  exact ⟨rfl, HK.out.trans' hK2⟩
end Ex
end Go.Proofs.Ytfgkcifkfokoiaa
