/- The walks through Show, rows, within and Size of package expr: for every expression that is not too large they give the text and the size in plain Lean. -/
import Derived.Test.YtfgkcifkfokoiaaExS
import Derived.Test.YtfgkcifkfokoiaaExR
import Derived.Test.YtfgkcifkfokoiaaShelf
import Derived.Test.YtfgkcifkfokoiaaProg
set_option linter.unusedVariables false
set_option linter.unusedSimpArgs false
namespace Go.Proofs.Ytfgkcifkfokoiaa
open Go.RowKit
namespace Ex

theorem str_info : (Try.prog.info? 9).map (fun i => (i.zero, i.size, i.bytes)) = some (some (.string ByteArray.empty), 1, 16) := by kernel_rfl
/-- A slice of small numbers at the head of a block of its own. -/
def Nums (w : World) (v : Value) (ks : List Nat) : Prop := ∃ b, v = .slice (some ⟨b, 0, none⟩) ks.length ks.length ∧ Blk w b 3 (ks.map fun k : Nat => Value.int .i64 (k : Int)) ∧ ks.length ≤ 10
theorem Nums.keep {w w' : World} {v : Value} {ks : List Nat} {S : Nat → Prop} (h : Nums w v ks) (hk : Keep S w w') (hn : ∀ b, v.ownBlock = some b → ¬ S b) : Nums w' v ks := by
  obtain ⟨b, rfl, hb, hl⟩ := h
  exact ⟨b, rfl, hb.keep hk (hn b rfl), hl⟩
theorem contains_any (w : World) (v : Value) (ks : List Nat) (h : Nums w v ks) (k : Nat) :
    Calls Try.prog 115 #[v, .int .i64 (k : Int)] w fun e w' => e = .returned (.bool (ks.contains k)) ∧ w = w' := by
  obtain ⟨b, rfl, hb, hl⟩ := h
  have hc : ∀ j, j < (ks.map fun k : Nat => (k : Int)).length → w.cell? ⟨b, 0 + j, none⟩ = some (.int .i64 ((ks.map fun k : Nat => (k : Int)).getD j 0)) := by
    intro j hj
    rw [Nat.zero_add, hb.cell j]
    simp at hj
    simp [hj]
  refine (Try.slices_Contains_int b 0 ks.length ks.length (ks.map fun k : Nat => (k : Int)) k w (by simp) (by omega) hc).mono ?_
  rintro e w' ⟨rfl, rfl⟩
  refine ⟨?_, rfl⟩
  congr 2
  rw [List.take_of_length_le (by simp)]
  clear hc hb hl
  rw [Bool.eq_iff_iff]
  simp
  exact ⟨fun ⟨a, h1, h2⟩ => by have : a = k := by omega
                               subst this; exact h1, fun h => ⟨k, h, rfl⟩⟩
theorem bs_append (a b : List UInt8) : (⟨a.toArray⟩ ++ ⟨b.toArray⟩ : ByteArray) = ⟨(a ++ b).toArray⟩ := by
  apply ByteArray.ext
  simp [ByteArray.data_append]
theorem bytes_eta (s : ByteArray) : (⟨s.data.toList.toArray⟩ : ByteArray) = s := by cases s; simp

theorem ExAt.kind {w : World} {ok : Nat → Prop} : ∀ {e : ET} {v : Value}, ExAt w ok e v → ∃ wd A n c, v = .agg #[.int .i64 (kindE e : Int), .string wd, .slice A n c]
  | .node k wd l, v, h => by
    simp only [ExAt] at h
    obtain ⟨kv, cs, rfl, ⟨A, n, c, rfl, _⟩, _⟩ := h
    exact ⟨_, _, _, _, rfl⟩
/-- Show does what sh says. -/
def ShowOK (e : ET) : Prop := ∀ (w : World) (ok : Nat → Prop) (v : Value), ExAt w ok e v → wgt e ≤ 1099511627776 →
  Calls Try.prog 17 #[v] w fun r w' => r = .returned (.string ⟨(sh e).toArray⟩) ∧ Keep (fun _ => False) w w'

set_option maxHeartbeats 1000000 in
theorem within_any (e : ET) (IH : ShowOK e) (w : World) (ok : Nat → Prop) (v kv : Value) (ks : List Nat) (h : ExAt w ok e v) (hw : wgt e ≤ 1099511627776) (hk : Nums w kv ks) :
    Calls Try.prog 124 #[v, kv] w fun r w' => r = .returned (.string ⟨(shW ks e).toArray⟩) ∧ Keep (fun _ => False) w w' := by
  obtain ⟨wd, A, n, c, rfl⟩ := h.kind
  obtain ⟨b, rfl, hb, hl⟩ := id hk
  have hlt := hb.lt
  have h1 := ExAt.keep (S := fun _ => False) ((Keep.refl _ w).alloc (.cells #[.int .i64 (kindE e : Int), .string wd, .slice A n c] 25)) (fun _ _ h => h) h
  have hk1 := hk.keep (S := fun _ => False) ((Keep.refl _ w).alloc (.cells #[.int .i64 (kindE e : Int), .string wd, .slice A n c] 25)) (fun _ _ h => h)
  have hlen := sh_len e
  by_cases hc : ks.contains (kindE e) = true
  · have hs : shW ks e = [40] ++ sh e ++ [41] := by unfold shW; rw [if_pos hc]
    have Hs := hid hs
    clear hs
    go_enter Try.func124, Try.ntmps124
    go_wp2_with fail
    refine (contains_any _ _ ks hk1 (kindE e)).mono ?_
    rintro r w' ⟨rfl, rfl⟩
    rw [hc]
    go_wp2_with fail
    refine (IH _ ok _ h1 hw).mono ?_
    rintro r w2 ⟨rfl, hK2⟩
    go_wp2_with fail
    go_ret
    refine ⟨?_, ((Keep.refl _ w).alloc _).trans' hK2⟩
    rw [Hs.out, ← bs_append, ← bs_append]
    rfl
  · have hs : shW ks e = sh e := by unfold shW; rw [if_neg hc]
    have hcf : ks.contains (kindE e) = false := by simpa using hc
    have Hs := hid hs
    clear hs hc
    go_enter Try.func124, Try.ntmps124
    go_wp2_with fail
    refine (contains_any _ _ ks hk1 (kindE e)).mono ?_
    rintro r w' ⟨rfl, rfl⟩
    rw [hcf]
    go_wp2_with fail
    refine (IH _ ok _ h1 hw).mono ?_
    rintro r w2 ⟨rfl, hK2⟩
    go_wp2_with fail
    go_ret
    exact ⟨by rw [Hs.out]; rfl, ((Keep.refl _ w).alloc _).trans' hK2⟩

theorem KsAt.nth {w : World} {ok : Nat → Prop} : ∀ {l : List ET} {cs : List Value}, KsAt w ok l cs → ∀ (k : Nat) (e : ET), l[k]? = some e →
    ∃ a b c, cs[k * 3]? = some a ∧ cs[k * 3 + 1]? = some b ∧ cs[k * 3 + 2]? = some c ∧ ExAt w ok e (.agg #[a, b, c])
  | [], cs, h, k, e, hk => by simp at hk
  | x :: l, cs, h, k, e, hk => by
    simp only [KsAt] at h
    obtain ⟨a, b, c, rest, rfl, h1, h2⟩ := h
    cases k with
    | zero =>
      simp at hk
      subst hk
      exact ⟨a, b, c, rfl, rfl, rfl, h1⟩
    | succ k =>
      simp at hk
      obtain ⟨a', b', c', g1, g2, g3, g4⟩ := KsAt.nth h2 k e hk
      refine ⟨a', b', c', ?_, ?_, ?_, g4⟩
      · rw [show (k + 1) * 3 = k * 3 + 3 from by omega]; simpa using g1
      · rw [show (k + 1) * 3 + 1 = (k * 3 + 1) + 3 from by omega]; simpa using g2
      · rw [show (k + 1) * 3 + 2 = (k * 3 + 2) + 3 from by omega]; simpa using g3

def strv (x : List UInt8) : Value := .string ⟨x.toArray⟩
theorem wgtL_mem {l : List ET} {e : ET} (h : e ∈ l) : wgt e ≤ wgtL l := by
  induction l with
  | nil => cases h
  | cons x l ih =>
    simp only [wgtL]
    cases h with
    | head => omega
    | tail _ h => have := ih h; omega

theorem wgtL_length : ∀ l : List ET, l.length ≤ wgtL l
  | [] => by simp [wgtL]
  | x :: l => by
    have := wgtL_length l
    simp only [wgtL, List.length_cons]
    omega
set_option maxRecDepth 100000 in
set_option maxHeartbeats 1000000 in
theorem rows_any (ke : Nat) (wde : ByteArray) (l : List ET) (IH : ∀ e, e ∈ l → ShowOK e) (w : World) (ok : Nat → Prop) (v kv : Value) (ks : List Nat) (sep : List UInt8) (hsep : sep.length ≤ 1)
    (h : ExAt w ok (.node ke wde l) v) (hw : wgtL l ≤ 1099511627776) (hk : Nums w kv ks) :
    Calls Try.prog 78 #[v, .string ⟨sep.toArray⟩, kv] w fun r w' => r = .returned (.string ⟨(Lib.join (shL ks l) sep).toArray⟩) ∧ Keep (fun _ => False) w w' := by
  simp only [ExAt] at h
  obtain ⟨kv', cs, rfl, hr, hl⟩ := h
  obtain ⟨A, n, c, rfl, hlen, hnc, hm, hcells⟩ := id hr
  obtain ⟨bk, rfl, hbk, hkl⟩ := id hk
  have hl3 := hl.length
  have hn : n = l.length := by omega
  subst hn
  have hjl := join_len (shL ks l) sep
  have hks := hk
  have hlw : l.length ≤ wgtL l := wgtL_length l
  go_enter Try.func78, Try.ntmps78
  go_wp2_with fail
  go_loopg [7, 13] l.length (fun g v i wr => ∃ k, k ≤ l.length ∧ g = l.length - k ∧ i = .int .i64 (k : Int) ∧ wr.ownsRow (w.heap.size + 1) 9 1 v k ((shL ks (l.take k)).map strv) ∧ (k = 0 → v = .slice none 0 0) ∧ Keep (fun _ => False) w wr ∧ w.heap.size < wr.heap.size)
  case atStart => exact ⟨0, Nat.zero_le _, rfl, rfl, World.ownsRow_nil _ _ _ _, fun _ => rfl, (Keep.refl _ w).alloc _, by simp⟩
  case round =>
    obtain ⟨k, hkn, hg, rfl, hown, hnil, hK, hsz⟩ := hrel
    have Hg := hid hg
    have Hnil := hid hnil
    clear hg hnil
    by_cases hlt : k < l.length
    · obtain ⟨a0, b0, c0, q1, q2, q3, hE⟩ := hl.nth k l[k] (by simp [hlt])
      obtain ⟨wd1, A1, n1, c1, hv⟩ := hE.kind
      simp at hv
      obtain ⟨rfl, rfl, rfl⟩ := hv
      obtain ⟨B, off, rfl, hok, hcell⟩ := hcells (by omega)
      have d0 := hK.cell (hcell _ _ q1) (fun h => h)
      have d1 := hK.cell (hcell _ _ q2) (fun h => h)
      have d2 := hK.cell (hcell _ _ q3) (fun h => h)
      rw [← Nat.add_assoc] at d1 d2
      have hwk : wgt l[k] ≤ 1099511627776 := Nat.le_trans (wgtL_mem (List.getElem_mem hlt)) hw
      have hslen := sh_len l[k]
      have hE1 := ExAt.keep ((hK.alloc (.cells #[.int .i64 (kindE l[k] : Int), .string wd1, .slice A1 n1 c1] 25))) (fun _ _ h => h) hE
      have hks1 := hks.keep ((hK.alloc (.cells #[.int .i64 (kindE l[k] : Int), .string wd1, .slice A1 n1 c1] 25))) (fun _ _ h => h)
      have hown1 := hown.alloc (.cells #[.int .i64 (kindE l[k] : Int), .string wd1, .slice A1 n1 c1] 25)
      have hK1 := hK.alloc (.cells #[.int .i64 (kindE l[k] : Int), .string wd1, .slice A1 n1 c1] 25)
      have hnew : (wr.alloc (.cells #[.int .i64 (kindE l[k] : Int), .string wd1, .slice A1 n1 c1] 25)).heap.size = wr.heap.size + 1 := by simp
      have hIH := IH _ (List.getElem_mem hlt)
      go_wp2_with fail
      refine (within_any l[k] hIH _ ok _ _ ks hE1 hwk hks1).mono ?_
      rintro r w2 ⟨rfl, hK2⟩
      have hown2 := Own.keep hown1 hK2 (fun _ _ h => h)
      have hK3 := hK1.trans' hK2
      have hsz2 := hK2.size
      rw [hnew] at hsz2
      clear hE1 hks1 hown1 hK1 hnew hK2
      go_wp2_with (at_builtin; refine append_one (w.heap.size + 1) rfl (.tmp 17) (.tmp 21) 41 9 _ 1 16 rfl Try.underlying41 str_info rfl (by decide) (by decide) _ k _ [strv (shW ks l[k])] rfl rfl rfl ?h1 hown2 ?hb ?hl ?next)
      case h1 => intro u hu; simp at hu; subst hu; rfl
      case hb => omega
      case hl => omega
      case next =>
        intro b3 cap3 w3 hown3 hK4 hb3
        go_wp2_with fail
        go_roundg (l.length - (k + 1))
        case measure => have := Hg.out; omega
        case rel =>
          refine ⟨k + 1, by omega, rfl, ?_, ?_, by omega, hK3.trans hK4 (fun i hi => .inr (by have := hown2.lt i hi; omega)), ?_⟩
          · congr 1
          · rw [List.take_add_one, List.getElem?_eq_getElem hlt, shL_map, List.map_append, List.map_append, ← shL_map]
            exact hown3
          · have := hK4.size; omega
    · have hke : k = l.length := by omega
      subst hke
      rw [List.take_length] at hown
      rcases hown.2 with ⟨rfl, h0⟩ | ⟨gb, cap, cur, rfl, hbB, hgb, hcp, hmx, hcs, hcur⟩
      · have hl0 : l = [] := List.eq_nil_of_length_eq_zero h0
        subst hl0
        go_wp2_with fail
        refine (Try.strings_Join_none none 0 _ _).mono ?_
        rintro r w' ⟨rfl, rfl⟩
        go_wp2_with fail
        go_ret
        exact ⟨rfl, hK⟩
      · have hsl : (shL ks l).length = l.length := by rw [shL_map]; simp
        have hback : ((shL ks l).map fun x => (⟨x.toArray⟩ : ByteArray)).map (fun x => x.data.toList) = shL ks l := by rw [List.map_map]; simp [Function.comp_def]
        have hj := Try.strings_Join gb 0 cap ((shL ks l).map fun x => (⟨x.toArray⟩ : ByteArray)) ⟨sep.toArray⟩ wr
          (by
            intro j x hx
            have hx' : ((shL ks l).map strv)[j]? = some (.string x) := by
              simp only [List.getElem?_map, Option.map_eq_some_iff] at hx ⊢
              obtain ⟨y, hy, rfl⟩ := hx
              exact ⟨y, hy, rfl⟩
            have := hown.cells (g := gb) rfl j _ hx'
            rwa [show ((⟨gb, 0, none⟩ : Addr).add j) = ⟨gb, 0 + j, none⟩ from by unfold Addr.add; split <;> simp_all] at this)
          (heap_lt hgb) (by simp [hsl]; omega) (by simp [hsl]; omega) (by rw [hback]; show (Lib.join (shL ks l) sep).length ≤ _; have := shL_len ks sep.length hsep l; omega)
        rw [hback] at hj
        simp only [List.length_map, hsl] at hj
        go_wp2_with fail
        refine hj.mono ?_
        rintro r w' ⟨rfl, hB⟩
        go_wp2_with fail
        go_ret
        refine ⟨?_, hK.trans' (Keep.of_below hB)⟩
        rfl
end Ex
end Go.Proofs.Ytfgkcifkfokoiaa
