/- The walks through between, Show and Size of beadleref14: the one text and the size of the tree that a node stands for. -/
import Derived.Test.YtfgkcifkfokoiaaFw8
import Derived.Test.YtfgkcifkfokoiaaExY
set_option linter.unusedVariables false
set_option linter.unusedSimpArgs false
namespace Go.Proofs.Ytfgkcifkfokoiaa
open Go.RowKit
namespace Ex
def sepB (k : Nat) : UInt8 := if k = 5 then 124 else if k = 6 then 38 else 32
theorem between_any (k : Nat) (w : World) : Calls Try.prog 104 #[.int .i64 (k : Int)] w fun e w' => e = .returned (.string ⟨[sepB k].toArray⟩) ∧ w = w' := by
  by_cases h5 : k = 5
  · subst h5
    go_enter Try.func104, Try.ntmps104
    go_wp2
    go_ret
    exact ⟨rfl, rfl⟩
  · by_cases h6 : k = 6
    · subst h6
      go_enter Try.func104, Try.ntmps104
      go_wp2
      go_ret
      exact ⟨rfl, rfl⟩
    · have hs := hid (show sepB k = 32 by unfold sepB; rw [if_neg h5, if_neg h6])
      have t5 : (((k : Nat) : Int) == 5) = false := by simp; omega
      have t6 : (((k : Nat) : Int) == 6) = false := by simp; omega
      clear h5 h6
      go_enter Try.func104, Try.ntmps104
      go_wp2
      go_ret
      exact ⟨by rw [hs.out]; rfl, rfl⟩
def shB (b : Bool) (e : ET) : List UInt8 := if b = true then [40] ++ sh e ++ [41] else sh e
/-- Show of the reference does what sh says. -/
def RShowOK (e : ET) : Prop := ∀ (w : World) (TB : Nat) (rt : Int) (ns : List Nd) (n : Nat), TRd w TB rt ns → Rep ns e n → wgt e ≤ 1099511627776 → ∀ b : Bool,
  Calls Try.prog 46 #[.pointer (some ⟨TB, 0, none⟩), .int .i64 (n : Int), .bool b] w fun r w' => r = .returned (.string ⟨(shB b e).toArray⟩) ∧ Keep (fun _ => False) w w'
set_option maxRecDepth 100000 in
theorem refShow_both {e : ET} (h : ∀ (w : World) (TB : Nat) (rt : Int) (ns : List Nd) (n : Nat), TRd w TB rt ns → Rep ns e n → wgt e ≤ 1099511627776 →
    Calls Try.prog 46 #[.pointer (some ⟨TB, 0, none⟩), .int .i64 (n : Int), .bool false] w fun r w' => r = .returned (.string ⟨(sh e).toArray⟩) ∧ Keep (fun _ => False) w w') : RShowOK e := by
  intro w TB rt ns n hT hr hw b
  cases b with
  | false => exact h w TB rt ns n hT hr hw
  | true =>
    have hlen := sh_len e
    go_enter Try.func46, Try.ntmps46
    go_wp2_with fail
    refine (h w TB rt ns n hT hr hw).mono ?_
    rintro r w2 ⟨rfl, hK2⟩
    go_wp2_with fail
    go_ret
    refine ⟨?_, hK2⟩
    rw [show shB true e = [40] ++ sh e ++ [41] from rfl, ← bs_append, ← bs_append]
    rfl
theorem join_snoc (xs : List (List UInt8)) (y sep : List UInt8) (h : xs ≠ []) : Lib.join (xs ++ [y]) sep = Lib.join xs sep ++ sep ++ y := by
  cases xs with
  | nil => exact absurd rfl h
  | cons x xs =>
    rw [List.cons_append, Lib.join_cons, Lib.join_cons]
    simp [Lib.joinTail]
/-- The text so far. -/
def upto (q : Nat) (sep : UInt8) (l : List ET) (k : Nat) : List UInt8 := Lib.join ((l.take k).map (lv q)) [sep]
theorem upto_succ (q : Nat) (sep : UInt8) (l : List ET) (k : Nat) (e : ET) (he : l[k]? = some e) : upto q sep l (k + 1) = (if k = 0 then [] else upto q sep l k ++ [sep]) ++ lv q e := by
  unfold upto
  rw [List.take_add_one, he]
  simp only [Option.toList_some, List.map_append, List.map_cons, List.map_nil]
  by_cases h0 : k = 0
  · subst h0
    rw [if_pos rfl]
    simp [join_one]
  · rw [if_neg h0, join_snoc _ _ _ (by
      have hlt := (List.getElem?_eq_some_iff.1 he).1
      intro e0
      have := congrArg List.length e0
      simp only [List.length_map, List.length_take, List.length_nil] at this
      omega)]
theorem upto_len (q : Nat) (sep : UInt8) (l : List ET) (k : Nat) : (upto q sep l k).length ≤ wgtL l := by
  unfold upto
  have h1 := join_len ((l.take k).map (lv q)) [sep]
  have h2 := shL_len (ksOf q) 1 (by decide) (l.take k)
  rw [shL_map] at h2
  have h3 : wgtL (l.take k) ≤ wgtL l := by
    have : ∀ (l : List ET) (k : Nat), wgtL (l.take k) ≤ wgtL l := by
      intro l
      induction l with
      | nil => intro k; simp
      | cons x l ih =>
        intro k
        cases k with
        | zero => simp [wgtL]
        | succ k => have := ih k; simp only [List.take_succ_cons, wgtL]; omega
    exact this l k
  have h4 : ((l.take k).map (lv q)).map (fun x => x.length + [sep].length) = ((l.take k).map (shW (ksOf q))).map (fun x => x.length + 1) := rfl
  rw [h4] at h1
  omega
/-- Is the kid in brackets, as the code decides it? -/
theorem in_cases (ke kk : Nat) : ∃ b : Bool, (ksOf (kl ke)).contains kk = b ∧
    ((b = true ∧ kk = 5) ∨ (b = true ∧ kk = 6 ∧ ke ≠ 5) ∨ (b = false ∧ kk = 6 ∧ ke = 5) ∨ (b = true ∧ kk = 4 ∧ ke ≠ 5 ∧ ke ≠ 6) ∨ (b = false ∧ kk = 4 ∧ ke = 5) ∨ (b = false ∧ kk = 4 ∧ ke = 6) ∨ (b = false ∧ kk ≠ 4 ∧ kk ≠ 5 ∧ kk ≠ 6)) := by
  refine ⟨_, rfl, ?_⟩
  by_cases e5 : ke = 5
  · subst e5
    by_cases k5 : kk = 5
    · subst k5; exact .inl ⟨rfl, rfl⟩
    · have hb : (ksOf (kl 5)).contains kk = false := by simp [kl, ksOf, k5]
      rw [hb]
      by_cases k6 : kk = 6
      · exact .inr (.inr (.inl ⟨rfl, k6, rfl⟩))
      · by_cases k4 : kk = 4
        · exact .inr (.inr (.inr (.inr (.inl ⟨rfl, k4, rfl⟩))))
        · exact .inr (.inr (.inr (.inr (.inr (.inr ⟨rfl, k4, k5, k6⟩)))))
  · by_cases e6 : ke = 6
    · subst e6
      by_cases k5 : kk = 5
      · subst k5; exact .inl ⟨rfl, rfl⟩
      · by_cases k6 : kk = 6
        · subst k6; exact .inr (.inl ⟨rfl, rfl, by decide⟩)
        · have hb : (ksOf (kl 6)).contains kk = false := by simp [kl, ksOf, k5, k6]
          rw [hb]
          by_cases k4 : kk = 4
          · exact .inr (.inr (.inr (.inr (.inr (.inl ⟨rfl, k4, rfl⟩)))))
          · exact .inr (.inr (.inr (.inr (.inr (.inr ⟨rfl, k4, k5, k6⟩)))))
    · have hk : kl ke = 3 := by unfold kl; rw [if_neg e5, if_neg e6]
      rw [hk]
      by_cases k5 : kk = 5
      · subst k5; exact .inl ⟨rfl, rfl⟩
      · by_cases k6 : kk = 6
        · subst k6; exact .inr (.inl ⟨rfl, rfl, e5⟩)
        · by_cases k4 : kk = 4
          · subst k4; exact .inr (.inr (.inr (.inl ⟨rfl, rfl, e5, e6⟩)))
          · have hb : (ksOf 3).contains kk = false := by simp [ksOf, k4, k5, k6]
            rw [hb]
            exact .inr (.inr (.inr (.inr (.inr (.inr ⟨rfl, k4, k5, k6⟩)))))
/-- The kid's brackets, decided. -/
def CutB (inb : Bool) (wr : World) (v : Value) (wx : World) : Prop := v = .bool inb ∧ wx = wr
/-- What the loop's text is turned into. -/
theorem sh_end {ke : Nat} {wd : ByteArray} {l : List ET} (hw : WF (.node ke wd l)) : sh (.node ke wd l) =
    if ke = 0 then [40, 41] else if ke = 1 then wd.data.toList else if ke = 2 then 64 :: wd.data.toList else if ke = 3 then [35, 116, 101, 120, 116] else if ke = 7 then upto (kl ke) (sepB ke) l l.length ++ [42] else if ke = 8 then upto (kl ke) (sepB ke) l l.length ++ [43] else if ke = 9 then upto (kl ke) (sepB ke) l l.length ++ [63] else upto (kl ke) (sepB ke) l l.length := by
  unfold upto
  rw [List.take_length]
  have hs := hw
  simp only [WF] at hs
  rw [sh]
  rcases hs with ⟨h1, -⟩ | ⟨h1, -⟩ | ⟨h1, -⟩ | ⟨h1, -, h3, -⟩
  · rcases h1 with rfl | rfl <;> simp
  · rcases h1 with rfl | rfl <;> simp
  · rcases h1 with rfl | rfl | rfl
    all_goals
      simp
      rw [shL_map]
      rfl
  · obtain ⟨x, rfl⟩ := List.length_eq_one_iff.1 h3
    rcases h1 with rfl | rfl | rfl
    all_goals
      have e : shL [4, 5, 6] [x] = [lv 3 x] := rfl
      simp [e, join_one, mark]
      rfl
set_option maxRecDepth 100000 in
set_option maxHeartbeats 2000000 in
theorem refShow_node (ke : Nat) (wde : ByteArray) (l : List ET) (hwf : WF (.node ke wde l)) (IH : ∀ e, e ∈ l → RShowOK e) : RShowOK (.node ke wde l) := by
  refine refShow_both ?_
  intro w TB rt ns n hT hrep hw
  simp only [Rep] at hrep
  obtain ⟨ks, hnd, hks⟩ := hrep
  have hkl : ks.length = l.length := hks.length
  obtain ⟨b, off, c1, A2, c2, hnl, hnm, g0, g1, g2, g3, hk1, hk2, hkc⟩ := hT.node hnd
  simp only at g1 g2 g3 hk1 hk2 hkc
  rw [hkl] at g3 hk1 hk2 hkc
  simp only [wgt] at hw
  have hend := hid (sh_end hwf)
  clear hkl hnd
  go_enter Try.func46, Try.ntmps46
  go_wp2_with fail
  go_loopg [8, 9] l.length (fun g v i wr => ∃ k x, k ≤ l.length ∧ g = l.length - k ∧ i = .int .i64 (k : Int) ∧ v = .string ⟨x.toArray⟩ ∧ upto (kl ke) (sepB ke) l k = x ∧ x.length ≤ wgtL l ∧ Keep (fun _ => False) w wr ∧ Blk wr w.heap.size 140 [.int .i64 (ke : Int), .string wde, .slice A2 l.length c2])
  case atStart => exact ⟨0, [], Nat.zero_le _, rfl, rfl, rfl, rfl, by simp, (Keep.refl _ w).alloc _, Blk.new w _ [_, _, _]⟩
  case round =>
    clear g0 g1 g2 g3
    obtain ⟨k, x, hkn, hg, rfl, rfl, hx, hxl, hK, hB⟩ := hrel
    have Hg := hid hg
    have Hx := hid hx
    clear hg hx
    have b0 := hB.cellAt (i := 0) rfl
    have b1 := hB.cellAt (i := 1) rfl
    have b2 := hB.cellAt (i := 2) rfl
    by_cases hlt : k < l.length
    · obtain ⟨m, hm1, hm2⟩ := hks.nth k l[k] (by simp [hlt])
      obtain ⟨B4, off4, rfl, hcell4⟩ := hkc (by omega)
      have d3 := hK.cell (hcell4 _ _ hm1) (fun h => h)
      have hTr := hT.keep hK (fun _ h => h)
      obtain ⟨kk, wk, lk, hek⟩ : ∃ kk wk lk, l[k] = .node kk wk lk := by cases h : l[k] with | node a b c => exact ⟨a, b, c, rfl⟩
      have hm3 := hm2
      rw [hek] at hm3
      simp only [Rep] at hm3
      obtain ⟨ks2, hnd2, -⟩ := hm3
      obtain ⟨b', off', c1', A2', c2', hnl', hnm', e0, e1, -⟩ := hTr.node hnd2
      simp only at e1
      have hkk : kindE l[k] = kk := by rw [hek]; rfl
      obtain ⟨inb, hinb, hcs⟩ := in_cases ke kk
      have hIH := fun (W : World) (hKs : Keep (fun _ => False) wr W) => IH _ (List.getElem_mem hlt) W TB rt ns m (hTr.keep hKs (fun _ h => h)) hm2 (Nat.le_trans (wgtL_mem (List.getElem_mem hlt)) (by omega)) inb
      have hlvl : (lv (kl ke) l[k]).length ≤ wgtL l + 3 := by
        have h1 := sh_len l[k]
        have h2 := wgtL_mem (List.getElem_mem hlt)
        rcases brk_cases (kl ke) (kindE l[k]) with h3 | h3
        · rw [lv_out h3]; omega
        · rw [lv_in h3]; simp only [List.length_cons, List.length_append, List.length_nil]; omega
      have hlv : shB inb l[k] = lv (kl ke) l[k] := by unfold lv shW shB; rw [hkk, hinb]
      rw [hlv] at hIH
      have hup := upto_succ (kl ke) (sepB ke) l k l[k] (by simp [hlt])
      have hupl := upto_len (kl ke) (sepB ke) l (k + 1)
      generalize lv (kl ke) l[k] = y at *
      have Hup := hid hup
      have HIH := hid hIH
      clear hIH hm1 hm2 hcell4 hlv hup hinb hkk hek hnd2
      go_wp2_with fail
      go_quiet (fail)
      obtain ⟨wq, hwq, hKq⟩ : ∃ wq, wq = wr.drewN nq ∧ Keep (fun _ => False) wr wq := ⟨_, rfl, (Keep.refl _ wr).drewN _⟩
      rw [← hwq]
      clear hwq
      have q0 := hKq.cell b0 (fun h => h)
      have q2 := hKq.cell b2 (fun h => h)
      have q3 := hKq.cell d3 (fun h => h)
      go_upto_region 9 with fail
      go_cut [11] (fun v wx => CutB inb wq v wx)
      case first =>
        have t0 : ∀ a c : Nat, a = c → (((a : Nat) : Int) == (c : Int)) = true := fun a c h => by simp [h]
        have t1 : ∀ a c : Nat, a ≠ c → (((a : Nat) : Int) == (c : Int)) = false := fun a c h => by simp; omega
        have t2 : ∀ a c : Nat, a = c → (((a : Nat) : Int) != (c : Int)) = false := fun a c h => by simp [h]
        have t3 : ∀ a c : Nat, a ≠ c → (((a : Nat) : Int) != (c : Int)) = true := fun a c h => by simp; omega
        have T0 := hid t0
        have T1 := hid t1
        have T2 := hid t2
        have T3 := hid t3
        clear t0 t1 t2 t3
        rcases hcs with ⟨rfl, h1⟩ | ⟨rfl, h1, h2⟩ | ⟨rfl, h1, h2⟩ | ⟨rfl, h1, h2, h3⟩ | ⟨rfl, h1, h2⟩ | ⟨rfl, h1, h2⟩ | ⟨rfl, h1, h2, h3⟩
        · have s1 : (((kk : Nat) : Int) == 5) = true := T0.out kk 5 h1
          clear h1
          go_wp2_with fail
          go_meet
          case rel => exact ⟨rfl, rfl⟩
        · have s1 : (((kk : Nat) : Int) == 5) = false := T1.out kk 5 (by omega)
          have s2 : (((kk : Nat) : Int) == 6) = true := T0.out kk 6 h1
          have s3 : (((ke : Nat) : Int) != 5) = true := T3.out ke 5 h2
          clear h1 h2
          go_wp2_with fail
          go_meet
          case rel => exact ⟨rfl, rfl⟩
        · have s1 : (((kk : Nat) : Int) == 5) = false := T1.out kk 5 (by omega)
          have s2 : (((kk : Nat) : Int) == 6) = true := T0.out kk 6 h1
          have s3 : (((ke : Nat) : Int) != 5) = false := T2.out ke 5 h2
          have s4 : (((kk : Nat) : Int) == 4) = false := T1.out kk 4 (by omega)
          clear h1 h2
          go_wp2_with fail
          go_meet
          case rel => exact ⟨rfl, rfl⟩
        · have s1 : (((kk : Nat) : Int) == 5) = false := T1.out kk 5 (by omega)
          have s2 : (((kk : Nat) : Int) == 6) = false := T1.out kk 6 (by omega)
          have s4 : (((kk : Nat) : Int) == 4) = true := T0.out kk 4 (by omega)
          have s3 : (((ke : Nat) : Int) != 5) = true := T3.out ke 5 h2
          have s5 : (((ke : Nat) : Int) != 6) = true := T3.out ke 6 h3
          clear h1 h2 h3
          go_wp2_with fail
          go_meet
          case rel => exact ⟨rfl, rfl⟩
        · have s1 : (((kk : Nat) : Int) == 5) = false := T1.out kk 5 (by omega)
          have s2 : (((kk : Nat) : Int) == 6) = false := T1.out kk 6 (by omega)
          have s4 : (((kk : Nat) : Int) == 4) = true := T0.out kk 4 (by omega)
          have s3 : (((ke : Nat) : Int) != 5) = false := T2.out ke 5 h2
          clear h1 h2
          go_wp2_with fail
          go_meet
          case rel => exact ⟨rfl, rfl⟩
        · have s1 : (((kk : Nat) : Int) == 5) = false := T1.out kk 5 (by omega)
          have s2 : (((kk : Nat) : Int) == 6) = false := T1.out kk 6 (by omega)
          have s4 : (((kk : Nat) : Int) == 4) = true := T0.out kk 4 (by omega)
          have s3 : (((ke : Nat) : Int) != 5) = true := T3.out ke 5 (by omega)
          have s5 : (((ke : Nat) : Int) != 6) = false := T2.out ke 6 h2
          clear h1 h2
          go_wp2_with fail
          go_meet
          case rel => exact ⟨rfl, rfl⟩
        · have s1 : (((kk : Nat) : Int) == 5) = false := T1.out kk 5 h2
          have s2 : (((kk : Nat) : Int) == 6) = false := T1.out kk 6 h3
          have s4 : (((kk : Nat) : Int) == 4) = false := T1.out kk 4 h1
          clear h1 h2 h3
          go_wp2_with fail
          go_meet
          case rel => exact ⟨rfl, rfl⟩
      case rest =>
        obtain ⟨rfl, rfl⟩ := hcut
        have hKc := hK.trans' hKq
        have hBc := hB.keep hKq (fun h => h)
        have hcl := HIH.out _ hKq
        clear HIH hK hKq hB hTr hcs e0 e1 d3 b0 b1 b2
        by_cases hk0 : k = 0
        · subst hk0
          have Hup2 := hid (show upto (kl ke) (sepB ke) l (0 + 1) = [] ++ y from Hup.out)
          obtain rfl : [] = x := Hx.out
          have q4 : wc.cell? ⟨B4, off4, none⟩ = some (.int .i64 (m : Int)) := q3
          clear Hup Hx
          go_wp2_with fail
          refine hcl.mono ?_
          rintro r w2 ⟨rfl, hK2⟩
          go_wp2_with fail
          go_roundg (l.length - (0 + 1))
          case measure => have := Hg.out; omega
          case rel => exact ⟨0 + 1, _, by omega, rfl, rfl, by rw [show (⟨[].toArray⟩ : ByteArray) ++ ⟨y.toArray⟩ = ⟨([] ++ y).toArray⟩ from bs_append [] y], Hup2.out, by rw [← Hup2.out]; exact hupl, hKc.trans' hK2, hBc.keep hK2 (fun h => h)⟩
        · have Hup2 := hid (show upto (kl ke) (sepB ke) l (k + 1) = (x ++ [sepB ke]) ++ y by rw [Hup.out, if_neg hk0, Hx.out])
          have hkp : 0 < k := by omega
          clear Hup Hx hk0
          go_wp2_with fail
          refine (between_any ke _).mono ?_
          rintro r w2 ⟨rfl, rfl⟩
          go_wp2_with fail
          refine hcl.mono ?_
          rintro r w2 ⟨rfl, hK2⟩
          go_wp2_with fail
          go_roundg (l.length - (k + 1))
          case measure => have := Hg.out; omega
          case rel => exact ⟨k + 1, _, by omega, rfl, rfl, by rw [bs_append, bs_append], Hup2.out, by rw [← Hup2.out]; exact hupl, hKc.trans' hK2, hBc.keep hK2 (fun h => h)⟩
    · have hke : k = l.length := by omega
      subst hke
      have hend' := hend.out
      rw [Hx.out] at hend'
      clear hend
      by_cases h0 : ke = 0
      · rw [if_pos h0] at hend'
        have hs := hid hend'
        have s0 : (((ke : Nat) : Int) == 0) = true := by simp [h0]
        clear hend' h0
        go_wp2_with fail
        go_ret
        exact ⟨by rw [hs.out]; rfl, hK⟩
      · rw [if_neg h0] at hend'
        have s0 : (((ke : Nat) : Int) == 0) = false := by simp; omega
        clear h0
        by_cases h1 : ke = 1
        · rw [if_pos h1] at hend'
          have hs := hid hend'
          have s1 : (((ke : Nat) : Int) == 1) = true := by simp [h1]
          clear hend' h1
          go_wp2_with fail
          go_ret
          exact ⟨by rw [hs.out, bytes_eta]; rfl, hK⟩
        · rw [if_neg h1] at hend'
          have s1 : (((ke : Nat) : Int) == 1) = false := by simp; omega
          clear h1
          by_cases h2 : ke = 2
          · rw [if_pos h2] at hend'
            have hs := hid hend'
            have s2 : (((ke : Nat) : Int) == 2) = true := by simp [h2]
            clear hend' h2
            go_wp2_with fail
            go_ret
            exact ⟨by rw [hs.out, show (⟨(64 :: wde.data.toList).toArray⟩ : ByteArray) = ⟨#[64]⟩ ++ wde from by rw [← bytes_eta wde, show (⟨#[64]⟩ : ByteArray) = ⟨[64].toArray⟩ from rfl, bs_append, bytes_eta]; rfl]; rfl, hK⟩
          · rw [if_neg h2] at hend'
            have s2 : (((ke : Nat) : Int) == 2) = false := by simp; omega
            clear h2
            by_cases h3 : ke = 3
            · rw [if_pos h3] at hend'
              have hs := hid hend'
              have s3 : (((ke : Nat) : Int) == 3) = true := by simp [h3]
              clear hend' h3
              go_wp2_with fail
              go_ret
              exact ⟨by rw [hs.out]; rfl, hK⟩
            · rw [if_neg h3] at hend'
              have s3 : (((ke : Nat) : Int) == 3) = false := by simp; omega
              clear h3
              by_cases h7 : ke = 7
              · rw [if_pos h7] at hend'
                have hs := hid hend'
                have s7 : (((ke : Nat) : Int) == 7) = true := by simp [h7]
                clear hend' h7
                go_wp2_with fail
                go_ret
                exact ⟨by rw [hs.out, ← bs_append]; rfl, hK⟩
              · rw [if_neg h7] at hend'
                have s7 : (((ke : Nat) : Int) == 7) = false := by simp; omega
                clear h7
                by_cases h8 : ke = 8
                · rw [if_pos h8] at hend'
                  have hs := hid hend'
                  have s8 : (((ke : Nat) : Int) == 8) = true := by simp [h8]
                  clear hend' h8
                  go_wp2_with fail
                  go_ret
                  exact ⟨by rw [hs.out, ← bs_append]; rfl, hK⟩
                · rw [if_neg h8] at hend'
                  have s8 : (((ke : Nat) : Int) == 8) = false := by simp; omega
                  clear h8
                  by_cases h9 : ke = 9
                  · rw [if_pos h9] at hend'
                    have hs := hid hend'
                    have s9 : (((ke : Nat) : Int) == 9) = true := by simp [h9]
                    clear hend' h9
                    go_wp2_with fail
                    go_ret
                    exact ⟨by rw [hs.out, ← bs_append]; rfl, hK⟩
                  · rw [if_neg h9] at hend'
                    have s9 : (((ke : Nat) : Int) == 9) = false := by simp; omega
                    clear h9
                    have hs := hid hend'
                    clear hend'
                    go_wp2_with fail
                    go_ret
                    exact ⟨by rw [hs.out]; rfl, hK⟩
mutual
theorem refShow_any : ∀ e : ET, WF e → RShowOK e
  | .node k wd l, h => refShow_node k wd l h (refShow_anyL l (by
      simp only [WF] at h
      rcases h with ⟨-, -, h⟩ | ⟨-, -, h⟩ | ⟨-, -, -, h⟩ | ⟨-, -, -, h⟩
      · rw [h]; trivial
      · rw [h]; trivial
      · exact h
      · exact h))
theorem refShow_anyL : ∀ l : List ET, WFL l → ∀ e, e ∈ l → RShowOK e
  | [], _, e, h => absurd h (by simp)
  | x :: l, hw, e, h => by
    simp only [WFL] at hw
    rcases List.mem_cons.1 h with h | h
    · rw [h]; exact refShow_any x hw.1
    · exact refShow_anyL l hw.2 e h
end
end Ex
end Go.Proofs.Ytfgkcifkfokoiaa
