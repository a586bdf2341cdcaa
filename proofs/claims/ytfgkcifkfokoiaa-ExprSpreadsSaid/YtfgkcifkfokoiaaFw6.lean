/- The walk through level of beadleref14 at level 2: its loop over items. -/
import Derived.Test.YtfgkcifkfokoiaaFw5
set_option linter.unusedVariables false
set_option linter.unusedSimpArgs false
namespace Go.Proofs.Ytfgkcifkfokoiaa
open Go.RowKit
namespace Ex
variable {F : Nat → Prop}

set_option maxRecDepth 100000 in
set_option maxHeartbeats 4000000 in
theorem reflevel2 (s : ByteArray) (hs : s.size ≤ 256) (f : Nat) (IH : ∀ g, g < f → RLevOK s g) (R TB i nest : Nat) (r : Ex.R ET) (nv : Value) (ns : List Nd) (w : World) (hF : ∀ k, F k → k < w.heap.size) (hR : RAt w R s i nest 0 0) (hT : TAt F w TB nv ns) (hi : i ≤ s.size) (hnest : nest ≤ 16) (hn : ns.length ≤ 2 * i) (hr : lev s (f + 1) 2 i nest = some r) :
    Calls Try.prog 76 #[.pointer (some ⟨R, 0, none⟩), .pointer (some ⟨TB, 0, none⟩), .int .i64 2] w fun e w' => LPost F w R TB s nest i nv ns r e w' := by
  obtain ⟨rk, hk, hrr⟩ := lev_row (by decide) hr
  rw [if_pos rfl] at hk
  have Hr := hid hrr
  have Hk := hid hk
  clear hr hrr hk
  have c4 := hR.cellAt (i := 4) rfl
  go_enter Try.func76, Try.ntmps76
  go_wp2_with fail
  refine (refblanks_any R s i nest 0 0 w hR (by omega)).mono ?_
  rintro e w0 ⟨rfl, hR0, hK0⟩
  have hT0 := hT.read hR hK0
  have hge := blanksEnd_ge s i
  have hle := blanksEnd_le s i hi
  go_wp2_with fail
  go_loopg [7] (s.size + 2 - blanksEnd s i) (fun g v wr => (∃ kv l0 ks0 ms nv1 j g2 r2, kv = v ∧ LA F w wr R TB s nest i nv ns kv l0 ks0 ms nv1 j ∧ g = s.size + 2 - j ∧ g2 ≤ f ∧ kids s g2 2 j nest = some r2 ∧ rk = prk l0 r2) ∨ (g = 0 ∧ ∃ a c, c ≠ 0 ∧ rk = .bad a c ∧ LB F w wr R TB s nest i nv ns a c))
  case atStart =>
    refine .inl ⟨_, [], [], [], nv, blanksEnd s i, f, rk, rfl, ⟨hR0, by rw [List.append_nil]; exact hT0.less (fun k _ h => h.elim id (fun e => by cases e)), World.ownsRow_nil _ _ _ _, rfl, by simp only [List.length_nil]; omega, hK0.mono (fun k _ h => .inl h), fun k h => .inl h, hle⟩, rfl, Nat.le_refl _, Hk.out, (prk_nil _).symm⟩
  case round =>
    clear c4 hR0 hT0 hK0
    rcases hrel with ⟨kv, l0, ks0, ms, nv1, j, g2, r2, rfl, hA, hg, hg2, hk2, hrk⟩ | ⟨hg, a, c, hc, hrk, P, ms, nv1, hB⟩
    · have Hg := hid hg
      obtain ⟨g3, rfl, hround⟩ := kids_round hk2
      have hlen := hA.len hn
      have hjs := hA.hj
      have c4 := hA.rd.cellAt (i := 4) rfl
      have hIH := fun r nv ns w hw => IH g3 (by omega) (FK F kv) 3 (by decide) R TB j nest r nv ns w hw
      have hIH := fun r nv ns => hIH r nv ns _ (hA.forb hF)
      clear hg hk2
      rcases hround with ⟨a, c, hl, rfl⟩ | ⟨e1, j1, hl, hmore⟩
      · have hcl := hIH _ _ _ hA.rd hA.tr hA.hj hnest (by omega) hl
        have Hrk := hid (show rk = .bad a c from hrk)
        have hc0 : c ≠ 0 := by have := (lev_bad s g3).1 _ _ _ _ _ hl; omega
        have tc : ((c : Int) == 0) = false := by simpa using (by omega : ¬ (c : Int) = 0)
        have tc' : ((c : Int) != 0) = true := by simpa using (by omega : ¬ (c : Int) = 0)
        clear hrk hl hIH
        go_wp2_with fail
        refine hcl.mono ?_
        rintro e w2 ⟨v1, P, ms2, nv2, rfl, hL⟩
        have hrow2 := LA.kids hA.rd hA.tr hA.row hL.keep
        have hB2 : w.heap.size ≤ w2.heap.size := by have := hA.keep.size; have := hL.keep.size; omega
        have hPhi := hL.hi
        clear hcl c4
        go_wp2_with (at_builtin; refine append_one w.heap.size rfl (.tmp 34) (.tmp 36) 47 3 _ 1 8 rfl Try.underlying47 int_info rfl (by decide) (by decide) _ ks0.length (ints ks0) [.int .i64 v1] rfl rfl rfl ?h1 hrow2 hB2 ?hl ?next)
        case h1 => intro u hu; simp at hu; subst hu; rfl
        case hl => omega
        case next =>
          intro b3 cap3 w3 hown3 hK3 hb3
          have hb3' : ∀ k, (Value.slice (some ⟨b3, 0, none⟩) (ks0.length + 1) cap3).ownBlock = some k → kv.ownBlock = some k ∨ w2.heap.size ≤ k := fun k hk => by have := ob hk; subst this; exact hb3
          have hR3 := hL.rd.grown hrow2 hK3
          go_wp2_with fail
          refine (refc_any R s P nest a c w3 hR3 (by omega)).mono ?_
          rintro e w4 ⟨rfl, n4, rfl⟩
          have hR4 : RAt (w3.drewN n4) R s P nest a c := Blk.drewN hR3 n4
          have hK4 := (Keep.refl (· = R) w3).drewN n4
          generalize w3.drewN n4 = w4 at *
          by_cases hm : wordly (here s P) = true
          · have hsg : begins (here s P) = true := by unfold begins; rw [hm]; rfl
            have HL := hid (LA.lost hA hL hK3 hb3' hK4 hR4 (Nat.le_refl _) hL.hi)
            clear hsg
            go_wp2_with fail
            refine (letter_any (here s P) (here_byte s P) _).mono ?_
            rintro e w5 ⟨rfl, rfl⟩
            rw [hm]
            clear hm hA hL hown3 hK3 hb3 hb3' hR3 hR4 hK4
            go_wp2_with fail
            go_roundg 0
            case measure => have := Hg.out; omega
            case rel => exact .inr ⟨rfl, a, c, hc0, Hrk.out, P, _, _, HL.out⟩
          · have hm : wordly (here s P) = false := by simpa using hm
            by_cases h64 : here s P = 64
            · have hsg : begins (here s P) = true := by rw [h64]; decide
              have t5 : (((here s P : Nat) : Int) == 64) = true := by rw [h64]; rfl
              clear h64
              have HL := hid (LA.lost hA hL hK3 hb3' hK4 hR4 (Nat.le_refl _) hL.hi)
              clear hsg
              go_wp2_with fail
              refine (letter_any (here s P) (here_byte s P) _).mono ?_
              rintro e w5 ⟨rfl, rfl⟩
              rw [hm]
              clear hm hA hL hown3 hK3 hb3 hb3' hR3 hR4 hK4
              go_wp2_with fail
              go_roundg 0
              case measure => have := Hg.out; omega
              case rel => exact .inr ⟨rfl, a, c, hc0, Hrk.out, P, _, _, HL.out⟩
            · have t5 : (((here s P : Nat) : Int) == 64) = false := by simp; omega
              by_cases h35 : here s P = 35
              · have hsg : begins (here s P) = true := by rw [h35]; decide
                have t6 : (((here s P : Nat) : Int) == 35) = true := by rw [h35]; rfl
                clear h64 h35
                have HL := hid (LA.lost hA hL hK3 hb3' hK4 hR4 (Nat.le_refl _) hL.hi)
                clear hsg
                go_wp2_with fail
                refine (letter_any (here s P) (here_byte s P) _).mono ?_
                rintro e w5 ⟨rfl, rfl⟩
                rw [hm]
                clear hm hA hL hown3 hK3 hb3 hb3' hR3 hR4 hK4
                go_wp2_with fail
                go_roundg 0
                case measure => have := Hg.out; omega
                case rel => exact .inr ⟨rfl, a, c, hc0, Hrk.out, P, _, _, HL.out⟩
              · have t6 : (((here s P : Nat) : Int) == 35) = false := by simp; omega
                by_cases h40 : here s P = 40
                · have hsg : begins (here s P) = true := by rw [h40]; decide
                  have t7 : (((here s P : Nat) : Int) == 40) = true := by rw [h40]; rfl
                  clear h64 h35 h40
                  have HL := hid (LA.lost hA hL hK3 hb3' hK4 hR4 (Nat.le_refl _) hL.hi)
                  clear hsg
                  go_wp2_with fail
                  refine (letter_any (here s P) (here_byte s P) _).mono ?_
                  rintro e w5 ⟨rfl, rfl⟩
                  rw [hm]
                  clear hm hA hL hown3 hK3 hb3 hb3' hR3 hR4 hK4
                  go_wp2_with fail
                  go_roundg 0
                  case measure => have := Hg.out; omega
                  case rel => exact .inr ⟨rfl, a, c, hc0, Hrk.out, P, _, _, HL.out⟩
                · have t7 : (((here s P : Nat) : Int) == 40) = false := by simp; omega
                  have hsg : begins (here s P) = false := by rw [begins_eq]; simp [hm, h64, h35, h40]
                  clear h64 h35 h40
                  have HL := hid (LA.lost hA hL hK3 hb3' hK4 hR4 (Nat.le_refl _) hL.hi)
                  have c4 := hR4.cellAt (i := 4) rfl
                  clear hsg
                  go_wp2_with fail
                  refine (letter_any (here s P) (here_byte s P) _).mono ?_
                  rintro e w5 ⟨rfl, rfl⟩
                  rw [hm]
                  clear hA hL hm hown3 hK3 hb3 hb3' hR3 hR4 hK4
                  go_wp2_with fail
                  go_ret
                  rw [Hr.out, Hrk.out]
                  exact ⟨-1, P, _, _, rfl, HL.out⟩
      · have hcl := hIH _ _ _ hA.rd hA.tr hA.hj hnest (by omega) hl
        have hfw := (lev_forward s g3).1 _ _ _ _ _ hA.hj hl
        clear hl hIH
        go_wp2_with fail
        refine hcl.mono ?_
        rintro e w2 ⟨n1, ms2, nv2, rfl, hG⟩
        have hrow2 := LA.kids hA.rd hA.tr hA.row hG.keep
        have hB2 : w.heap.size ≤ w2.heap.size := by have := hA.keep.size; have := hG.keep.size; omega
        have Hmore := hid hmore
        have Hrk0 := hid hrk
        clear hcl c4 hmore hrk
        go_wp2_with (at_builtin; refine append_one w.heap.size rfl (.tmp 34) (.tmp 36) 47 3 _ 1 8 rfl Try.underlying47 int_info rfl (by decide) (by decide) _ ks0.length (ints ks0) [.int .i64 ((n1 : Nat) : Int)] rfl rfl rfl ?h1 hrow2 hB2 ?hl ?next)
        case h1 => intro u hu; simp at hu; subst hu; rfl
        case hl => omega
        case next =>
          intro b3 cap3 w3 hown3 hK3 hb3
          have hb3' : ∀ k, (Value.slice (some ⟨b3, 0, none⟩) (ks0.length + 1) cap3).ownBlock = some k → kv.ownBlock = some k ∨ w2.heap.size ≤ k := fun k hk => by have := ob hk; subst this; exact hb3
          have hR3 := hG.rd.grown hrow2 hK3
          go_wp2_with fail
          refine (refc_any R s j1 nest 0 0 w3 hR3 (by omega)).mono ?_
          rintro e w4 ⟨rfl, n4, rfl⟩
          have hR4 : RAt (w3.drewN n4) R s j1 nest 0 0 := Blk.drewN hR3 n4
          have hK4 := (Keep.refl (· = R) w3).drewN n4
          have hmore := Hmore.out
          have hrk := Hrk0.out
          clear Hmore Hrk0
          generalize w3.drewN n4 = w4 at *
          by_cases hm : wordly (here s j1) = true
          · have hsg : begins (here s j1) = true := by unfold begins; rw [hm]; rfl
            rcases hmore with ⟨hmf, -⟩ | ⟨-, r2', hk2, rfl⟩
            · rw [show more 2 (here s j1) = true from hsg] at hmf
              cases hmf
            · have hk2 : kids s g3 2 j1 nest = some r2' := hk2
              have HN := hid (LA.next hA hG hown3 hK3 hb3' hK4 hR4 (Nat.le_refl _) (by omega))
              have Hk2 := hid hk2
              have Hrk := hid (show rk = prk (l0 ++ [e1]) r2' by rw [hrk, prk_cons])
              clear hsg hk2 hrk
              go_wp2_with fail
              refine (letter_any (here s j1) (here_byte s j1) _).mono ?_
              rintro e w5 ⟨rfl, rfl⟩
              rw [hm]
              clear hA hG hm hown3 hK3 hb3 hb3' hR3 hR4 hK4
              go_wp2_with fail
              go_roundg (s.size + 2 - j1)
              case measure => have := Hg.out; omega
              case rel => exact .inl ⟨_, _, _, _, _, _, g3, _, rfl, HN.out, rfl, by omega, Hk2.out, Hrk.out⟩
          · have hm : wordly (here s j1) = false := by simpa using hm
            by_cases h64 : here s j1 = 64
            · have hsg : begins (here s j1) = true := by rw [h64]; decide
              have t5 : (((here s j1 : Nat) : Int) == 64) = true := by rw [h64]; rfl
              clear h64
              rcases hmore with ⟨hmf, -⟩ | ⟨-, r2', hk2, rfl⟩
              · rw [show more 2 (here s j1) = true from hsg] at hmf
                cases hmf
              · have hk2 : kids s g3 2 j1 nest = some r2' := hk2
                have HN := hid (LA.next hA hG hown3 hK3 hb3' hK4 hR4 (Nat.le_refl _) (by omega))
                have Hk2 := hid hk2
                have Hrk := hid (show rk = prk (l0 ++ [e1]) r2' by rw [hrk, prk_cons])
                clear hsg hk2 hrk
                go_wp2_with fail
                refine (letter_any (here s j1) (here_byte s j1) _).mono ?_
                rintro e w5 ⟨rfl, rfl⟩
                rw [hm]
                clear hA hG hm hown3 hK3 hb3 hb3' hR3 hR4 hK4
                go_wp2_with fail
                go_roundg (s.size + 2 - j1)
                case measure => have := Hg.out; omega
                case rel => exact .inl ⟨_, _, _, _, _, _, g3, _, rfl, HN.out, rfl, by omega, Hk2.out, Hrk.out⟩
            · have t5 : (((here s j1 : Nat) : Int) == 64) = false := by simp; omega
              by_cases h35 : here s j1 = 35
              · have hsg : begins (here s j1) = true := by rw [h35]; decide
                have t6 : (((here s j1 : Nat) : Int) == 35) = true := by rw [h35]; rfl
                clear h64 h35
                rcases hmore with ⟨hmf, -⟩ | ⟨-, r2', hk2, rfl⟩
                · rw [show more 2 (here s j1) = true from hsg] at hmf
                  cases hmf
                · have hk2 : kids s g3 2 j1 nest = some r2' := hk2
                  have HN := hid (LA.next hA hG hown3 hK3 hb3' hK4 hR4 (Nat.le_refl _) (by omega))
                  have Hk2 := hid hk2
                  have Hrk := hid (show rk = prk (l0 ++ [e1]) r2' by rw [hrk, prk_cons])
                  clear hsg hk2 hrk
                  go_wp2_with fail
                  refine (letter_any (here s j1) (here_byte s j1) _).mono ?_
                  rintro e w5 ⟨rfl, rfl⟩
                  rw [hm]
                  clear hA hG hm hown3 hK3 hb3 hb3' hR3 hR4 hK4
                  go_wp2_with fail
                  go_roundg (s.size + 2 - j1)
                  case measure => have := Hg.out; omega
                  case rel => exact .inl ⟨_, _, _, _, _, _, g3, _, rfl, HN.out, rfl, by omega, Hk2.out, Hrk.out⟩
              · have t6 : (((here s j1 : Nat) : Int) == 35) = false := by simp; omega
                by_cases h40 : here s j1 = 40
                · have hsg : begins (here s j1) = true := by rw [h40]; decide
                  have t7 : (((here s j1 : Nat) : Int) == 40) = true := by rw [h40]; rfl
                  clear h64 h35 h40
                  rcases hmore with ⟨hmf, -⟩ | ⟨-, r2', hk2, rfl⟩
                  · rw [show more 2 (here s j1) = true from hsg] at hmf
                    cases hmf
                  · have hk2 : kids s g3 2 j1 nest = some r2' := hk2
                    have HN := hid (LA.next hA hG hown3 hK3 hb3' hK4 hR4 (Nat.le_refl _) (by omega))
                    have Hk2 := hid hk2
                    have Hrk := hid (show rk = prk (l0 ++ [e1]) r2' by rw [hrk, prk_cons])
                    clear hsg hk2 hrk
                    go_wp2_with fail
                    refine (letter_any (here s j1) (here_byte s j1) _).mono ?_
                    rintro e w5 ⟨rfl, rfl⟩
                    rw [hm]
                    clear hA hG hm hown3 hK3 hb3 hb3' hR3 hR4 hK4
                    go_wp2_with fail
                    go_roundg (s.size + 2 - j1)
                    case measure => have := Hg.out; omega
                    case rel => exact .inl ⟨_, _, _, _, _, _, g3, _, rfl, HN.out, rfl, by omega, Hk2.out, Hrk.out⟩
                · have t7 : (((here s j1 : Nat) : Int) == 40) = false := by simp; omega
                  have hsg : begins (here s j1) = false := by rw [begins_eq]; simp [hm, h64, h35, h40]
                  clear h64 h35 h40
                  rcases hmore with ⟨-, rfl⟩ | ⟨hmf, -⟩
                  case inr =>
                    rw [show more 2 (here s j1) = false from hsg] at hmf
                    cases hmf
                  have hN := LA.next hA hG hown3 hK3 hb3' hK4 hR4 (Nat.le_refl _) (by omega)
                  have Hrk := hid (show rk = .ok (l0 ++ [e1]) j1 by rw [hrk, prk_end])
                  have hlk : l0.length = ks0.length := (RepL.length hA.rep).symm
                  have c4 := hR4.cellAt (i := 4) rfl
                  clear hsg
                  clear hrk hG hK3 hb3 hb3' hR3 hK4
                  by_cases h0 : ks0.length = 0
                  · obtain rfl : ks0 = [] := List.eq_nil_of_length_eq_zero h0
                    obtain rfl : l0 = [] := List.eq_nil_of_length_eq_zero hlk
                    have hN1 := hN.one
                    have Hr1 := hid (show r = .ok e1 j1 by rw [Hr.out, Hrk.out]; rfl)
                    have e0 : w4.cell? ⟨b3, 0, none⟩ = some (.int .i64 ((n1 : Nat) : Int)) := hN.row.cells (g := b3) rfl 0 _ rfl
                    clear h0 hlk
                    go_wp2_with fail
                    refine (letter_any (here s j1) (here_byte s j1) _).mono ?_
                    rintro e w5 ⟨rfl, rfl⟩
                    rw [hm]
                    clear hm hN hA hown3 hrow2
                    go_wp2_with fail
                    go_ret
                    rw [Hr1.out]
                    exact ⟨n1, _, _, rfl, hN1⟩
                  · have h2 : 2 ≤ (ks0 ++ [n1]).length := by simp; omega
                    have t8 : ((((ks0.length + 1 : Nat) : Int)) == 1) = false := by simp; omega
                    have t9 : ((((ks0.length : Nat) : Int) + 1) == 1) = false := by simp; omega
                    have Hr1 := hid (show r = .ok (.node 4 ByteArray.empty (l0 ++ [e1])) j1 by rw [Hr.out, Hrk.out]; show Ex.R.ok (row _ (l0 ++ [e1])) j1 = _; rw [row_many _ (by simp; omega)]; rfl)
                    have hN2 := hN.alloc (.cells #[.int .i64 5, .int .i64 6, .int .i64 4] 3)
                    have hT2 : TAt F _ TB nv2 (ns ++ (ms ++ ms2)) := hN2.tr.less (fun k _ h => .inl h)
                    have hrd := hN2.rdk hF
                    have hln := hN2.len hn
                    have hlx : ks0.length ≤ 600 := by have := hA.bd; omega
                    clear h0 hN hA hown3 hrow2
                    go_wp2_with fail
                    refine (letter_any (here s j1) (here_byte s j1) _).mono ?_
                    rintro e w5 ⟨rfl, rfl⟩
                    rw [hm]
                    clear hm
                    go_wp2_with fail
                    refine (add_any TB nv2 (ns ++ (ms ++ ms2)) ⟨4, ByteArray.empty, ks0 ++ [n1]⟩ _ _ _ _ hT2 (by omega) hrd).mono ?_
                    rintro e w5 ⟨nv5, rfl, hT5, hK5, hb5⟩
                    have HG := hid (hN2.many h2 hT5 hK5 hb5)
                    clear hN2 hT2 hrd hT5 hK5 hb5
                    go_wp2_with fail
                    go_ret
                    rw [Hr1.out]
                    exact ⟨(ns ++ (ms ++ ms2)).length, _, _, by simp, HG.out⟩
    · have Hrk := hid hrk
      have c4 := hB.rd.cellAt (i := 4) rfl
      have t1 : ((c : Int) == 0) = false := by simpa using (by omega : ¬ (c : Int) = 0)
      have t2 : ((c : Int) != 0) = true := by simpa using (by omega : ¬ (c : Int) = 0)
      have HB := hid hB
      clear hrk hB
      go_wp2_with fail
      go_ret
      rw [Hr.out, Hrk.out]
      exact ⟨-1, P, ms, nv1, rfl, HB.out⟩
end Ex
end Go.Proofs.Ytfgkcifkfokoiaa
