/- The walks through Size of package expr and deep of the laws of layer 14. -/
import Derived.Test.YtfgkcifkfokoiaaExV2
import Derived.Test.YtfgkcifkfokoiaaExJ
set_option linter.unusedVariables false
set_option linter.unusedSimpArgs false
namespace Go.Proofs.Ytfgkcifkfokoiaa
open Go.RowKit
namespace Ex
def SizeOK (e : ET) : Prop := ∀ (w : World) (ok : Nat → Prop) (v : Value), ExAt w ok e v → cnt e ≤ 1099511627776 →
  Calls Try.prog 47 #[v] w fun r w' => r = .returned (.int .i64 (cnt e : Int)) ∧ Keep (fun _ => False) w w'
theorem cntL_take : ∀ (l : List ET) (k : Nat) (e : ET), l[k]? = some e → cntL (l.take (k + 1)) = cntL (l.take k) + cnt e
  | [], k, e, h => by simp at h
  | x :: l, 0, e, h => by
    simp at h
    subst h
    simp [cntL]
  | x :: l, k + 1, e, h => by
    have := cntL_take l k e (by simpa using h)
    simp only [List.take_succ_cons, cntL] at this ⊢
    omega
theorem cntL_take_le : ∀ (l : List ET) (k : Nat), cntL (l.take k) ≤ cntL l
  | [], k => by simp
  | x :: l, 0 => by simp [cntL]
  | x :: l, k + 1 => by
    have := cntL_take_le l k
    simp only [List.take_succ_cons, cntL] at this ⊢
    omega

set_option maxRecDepth 100000 in
set_option maxHeartbeats 1000000 in
theorem Size_node (ke : Nat) (wde : ByteArray) (l : List ET) (IH : ∀ e, e ∈ l → SizeOK e) : SizeOK (.node ke wde l) := by
  intro w ok v h hw
  simp only [ExAt] at h
  obtain ⟨kv', cs, rfl, hr, hl⟩ := h
  obtain ⟨A, n, c, rfl, hlen, hnc, hm, hcells⟩ := id hr
  have hl3 := hl.length
  have hn : n = l.length := by omega
  subst hn
  have hcnt : cnt (.node ke wde l) = 1 + cntL l := by simp only [cnt]
  have Hcnt := hid hcnt
  rw [hcnt] at hw
  clear hcnt
  go_enter Try.func47, Try.ntmps47
  go_wp2_with fail
  go_loopg [3, 9] l.length (fun g v i wr => ∃ k, k ≤ l.length ∧ g = l.length - k ∧ i = .int .i64 (k : Int) ∧ v = .int .i64 ((1 + cntL (l.take k) : Nat) : Int) ∧ Keep (fun _ => False) w wr ∧ w.heap.size < wr.heap.size)
  case atStart => exact ⟨0, Nat.zero_le _, rfl, rfl, rfl, (Keep.refl _ w).alloc _, by simp⟩
  case round =>
    obtain ⟨k, hkn, hg, rfl, rfl, hK, hsz⟩ := hrel
    have Hg := hid hg
    clear hg
    have hct := cntL_take_le l k
    by_cases hlt : k < l.length
    · obtain ⟨a0, b0, c0, q1, q2, q3, hE⟩ := hl.nth k l[k] (by simp [hlt])
      obtain ⟨wd1, A1, n1, c1, hv⟩ := hE.kind
      simp at hv
      obtain ⟨rfl, rfl, rfl⟩ := hv
      obtain ⟨B, off, rfl, hok, hcell⟩ := hcells (by omega)
      have d0 := hK.cell (hcell _ _ q1) (fun h => h)
      have d1 := hK.cell (hcell _ _ q2) (fun h => h)
      have d2 := hK.cell (hcell _ _ q3) (fun h => h)
      rw [← Nat.add_assoc] at d1 d2
      have hE1 := ExAt.keep ((hK.alloc (.cells #[.int .i64 (kindE l[k] : Int), .string wd1, .slice A1 n1 c1] 25))) (fun _ _ h => h) hE
      have hK1 := hK.alloc (.cells #[.int .i64 (kindE l[k] : Int), .string wd1, .slice A1 n1 c1] 25)
      have hnew : (wr.alloc (.cells #[.int .i64 (kindE l[k] : Int), .string wd1, .slice A1 n1 c1] 25)).heap.size = wr.heap.size + 1 := by simp
      have hIH := IH _ (List.getElem_mem hlt)
      have hnx := cntL_take l k l[k] (by simp [hlt])
      have hct2 := cntL_take_le l (k + 1)
      have Hnx := hid hnx
      go_wp2_with fail
      refine (hIH _ ok _ hE1 (by omega)).mono ?_
      rintro r w2 ⟨rfl, hK2⟩
      have hK3 := hK1.trans' hK2
      have hsz2 := hK2.size
      rw [hnew] at hsz2
      clear hE1 hK1 hnew hK2
      have hct3 : cntL (l.take k) + cnt l[k] ≤ cntL l := by omega
      clear hnx hct2
      go_wp2_with fail
      go_roundg (l.length - (k + 1))
      case measure => have := Hg.out; omega
      case rel => exact ⟨k + 1, by omega, rfl, rfl, by rw [Hnx.out]; congr 1; omega, hK3, by omega⟩
    · have hke : k = l.length := by omega
      subst hke
      go_wp2_with fail
      go_ret
      refine ⟨?_, hK⟩
      rw [Hcnt.out, List.take_length]
      rfl
mutual
theorem Size_any : ∀ e : ET, SizeOK e
  | .node k wd l => Size_node k wd l (Size_anyL l)
theorem Size_anyL : ∀ (l : List ET) (e : ET), e ∈ l → SizeOK e
  | x :: l, e, h => by
    rcases List.mem_cons.1 h with h | h
    · rw [h]; exact Size_any x
    · exact Size_anyL l e h
end

theorem depth_bound : ∀ (l : List UInt8) (i : Nat), -(i : Int) ≤ (depth (l.take i)).1 ∧ (depth (l.take i)).1 ≤ i ∧ 0 ≤ (depth (l.take i)).2 ∧ (depth (l.take i)).2 ≤ i
  | l, 0 => by simp [depth]
  | l, i + 1 => by
    have h := depth_bound l i
    cases hc : l[i]? with
    | none =>
      have : l.take (i + 1) = l.take i := by rw [List.take_add_one, hc]; simp
      rw [this]
      omega
    | some c =>
      rw [depth_succ l i c hc]
      unfold stepD
      split
      · simp only; omega
      · split
        · simp only; omega
        · omega
set_option maxRecDepth 100000 in
set_option maxHeartbeats 1000000 in
theorem deep_any (s : ByteArray) (hs : s.size ≤ 140737488351232) (w : World) : Calls Try.prog 49 #[.string s] w fun e w' => e = .returned (.int .i64 (deepv s)) ∧ w' = w := by
  go_enter Try.func49, Try.ntmps49
  go_wp2_with fail
  go_loopg [3, 4, 5] s.size (fun g n m i wr => ∃ q, q ≤ s.size ∧ g = s.size - q ∧ i = .int .i64 (q : Int) ∧ n = .int .i64 (depth (s.data.toList.take q)).1 ∧ m = .int .i64 (depth (s.data.toList.take q)).2 ∧ wr = w)
  case atStart => exact ⟨0, Nat.zero_le _, rfl, rfl, rfl, rfl, rfl⟩
  case round =>
    obtain ⟨q, hq, hg, rfl, rfl, rfl, rfl⟩ := hrel
    have Hg := hid hg
    clear hg
    have hb := depth_bound s.data.toList q
    have hb' := depth_bound s.data.toList (q + 1)
    by_cases hlt : q < s.size
    · obtain ⟨c, hc, hhc⟩ := byte_at s q hlt
      have hsc : (s[q]'hlt).toNat = c.toNat := by rw [← hhc]; unfold here; rw [dif_pos hlt]
      have hst := depth_succ _ _ _ hc
      rw [hst] at hb'
      have Hst := hid hst
      clear hst hc hhc
      generalize depth (s.data.toList.take q) = p at *
      obtain ⟨p1, p2⟩ := p
      by_cases h40 : c = 40
      · subst h40
        have t1 : (((s[q]'hlt).toNat : Int) == 40) = true := by rw [hsc]; rfl
        clear hsc hb'
        go_wp2_with fail
        go_roundg (s.size - (q + 1))
        case measure => have := Hg.out; omega
        case rel => exact ⟨q + 1, by omega, rfl, rfl, by rw [Hst.out]; rfl, by rw [Hst.out]; rfl, rfl⟩
      · by_cases h41 : c = 41
        · subst h41
          have t1 : (((s[q]'hlt).toNat : Int) == 40) = false := by rw [hsc]; rfl
          have t2 : (((s[q]'hlt).toNat : Int) == 41) = true := by rw [hsc]; rfl
          clear hsc hb'
          go_wp2_with fail
          go_roundg (s.size - (q + 1))
          case measure => have := Hg.out; omega
          case rel => exact ⟨q + 1, by omega, rfl, rfl, by rw [Hst.out]; rfl, by rw [Hst.out]; rfl, rfl⟩
        · have n1 : c.toNat ≠ 40 := fun h => h40 (UInt8.toNat_inj.1 h)
          have n2 : c.toNat ≠ 41 := fun h => h41 (UInt8.toNat_inj.1 h)
          have t1 : (((s[q]'hlt).toNat : Int) == 40) = false := by rw [hsc]; simpa using (by omega : ¬ (c.toNat : Int) = 40)
          have t2 : (((s[q]'hlt).toNat : Int) == 41) = false := by rw [hsc]; simpa using (by omega : ¬ (c.toNat : Int) = 41)
          have h2 : stepD (p1, p2) c = (p1, p2) := by unfold stepD; rw [if_neg h40, if_neg h41]
          have Hst2 := hid (Hst.out.trans h2)
          clear hsc hb' h2 Hst
          go_wp2_with fail
          go_roundg (s.size - (q + 1))
          case measure => have := Hg.out; omega
          case rel => exact ⟨q + 1, by omega, rfl, rfl, by rw [Hst2.out], by rw [Hst2.out], rfl⟩
    · have hqe : q = s.size := by omega
      subst hqe
      go_wp2_with fail
      go_ret
      refine ⟨?_, rfl⟩
      unfold deepv
      rw [List.take_of_length_le (by simp)]
      rfl
end Ex
end Go.Proofs.Ytfgkcifkfokoiaa
