/- The walk through Spread of beadleref14. -/
import Derived.Test.YtfgkcifkfokoiaaFwC
import Derived.Deep.OwnRows
set_option linter.unusedVariables false
set_option linter.unusedSimpArgs false
namespace Go.Proofs.Ytfgkcifkfokoiaa
open Go.RowKit
namespace Ex
variable {F : Nat → Prop}
theorem TS.new {w : World} {TB : Nat} {nv : Value} {ns : List Nd} {rt : Int} (h : TAt F w TB nv ns rt) : ¬ TS TB nv w.heap.size := by
  obtain ⟨h1, xs, h2, h3⟩ := h
  rintro (h | h)
  · have := h1.lt; omega
  · have := (h2.lt _ h).2; omega
theorem isI.free {w : World} {TB k : Nat} {nv : Value} {ns : List Nd} {rt : Int} (h : TAt F w TB nv ns rt) (hI : isI w k) : ¬ TS TB nv k := by
  obtain ⟨h1, xs, h2, h3⟩ := h
  rintro (h | h)
  · exact hI.ne h1 (by decide) h
  · exact hI.row h2 (by decide) h
def markL (n : Nat) (L : List Nat) : List Value := (List.range n).map fun j => Value.bool (L.contains j)
theorem markL_get {n : Nat} {L : List Nat} {k : Nat} (h : k < n) : (markL n L)[k]? = some (.bool (L.contains k)) := by
  unfold markL
  rw [List.getElem?_map, List.getElem?_range h]
  rfl
theorem markL_set {n : Nat} {L : List Nat} {k : Nat} (h : k < n) : (markL n L).set k (.bool true) = markL n (L ++ [k]) := by
  apply List.ext_getElem?
  intro j
  unfold markL
  rw [List.getElem?_set]
  by_cases hj : j < n
  · rw [List.getElem?_map, List.getElem?_map, List.getElem?_range hj]
    by_cases hk : k = j
    · subst hk
      simp [hj]
    · rw [if_neg hk]
      simp
      exact fun e => absurd e.symm hk
  · rw [List.getElem?_eq_none (by simp; omega), List.getElem?_eq_none (by simp; omega), if_neg (by omega)]
theorem nodup_snoc : ∀ (L : List Nat) (k : Nat), nodup (L ++ [k]) = (nodup L && !L.contains k)
  | [], k => by simp [nodup]
  | a :: L, k => by
    rw [List.cons_append, nodup, nodup, nodup_snoc L k]
    by_cases h : a = k
    · subst h; simp
    · have h' : (k == a) = false := by simp; exact fun e => h e.symm
      have e : (L ++ [k]).contains a = L.contains a := by
        rw [Bool.eq_iff_iff]
        simp [h]
      have e2 : (a :: L).contains k = L.contains k := by
        rw [Bool.eq_iff_iff]
        simp
        exact fun e => absurd e.symm h
      rw [e, e2, Bool.and_assoc]
theorem digs_len (n m : Nat) : (digs n m).length = n := by simp [digs]
theorem digs_take {n m i : Nat} (h : i < n) : (digs n m).take (i + 1) = (digs n m).take i ++ [dig n m i] := by
  rw [List.take_add_one]
  congr 1
  unfold digs
  rw [List.getElem?_map, List.getElem?_range h]
  rfl
theorem dig_lt {n m i : Nat} (h : 0 < n) : dig n m i < n := Nat.mod_lt _ h
theorem bool_info : (Try.prog.info? 4).map (fun i => (i.zero, i.size, i.bytes)) = some (some (.bool false), 1, 1) := by kernel_rfl
theorem made_mark (n : Nat) : madeCells #[Value.bool false] n = (markL n []).toArray := by
  unfold madeCells markL
  apply Array.ext
  · simp
  · intro i h1 h2
    simp
    rw [Nat.mod_one]
    rfl
theorem TAt.same {w w' : World} {TB : Nat} {nv : Value} {ns : List Nd} {rt : Int} (h : TAt F w TB nv ns rt) (hK : Keep (fun _ => False) w w') : TAt F w' TB nv ns rt := by
  obtain ⟨h1, xs, h2, h3⟩ := h
  exact ⟨h1.keep hK (fun h => h), xs, Own.keep h2 hK (fun _ _ h => h), h3.step hK (fun _ _ h => h)⟩
theorem S1.same {W wr w2 : World} {TB b : Nat} {rt : Int} {nv kv nv1 : Value} {ns ms : List Nd} {l0 : List ET} {ks0 : List Nat} (h : S1 F W wr TB rt nv ns kv l0 ks0 ms nv1 b) (hK : Keep (fun _ => False) wr w2) : S1 F W w2 TB rt nv ns kv l0 ks0 ms nv1 b :=
  ⟨h.tr.same hK, Own.keep h.row hK (fun _ _ h => h), h.rep, h.bd, h.keep.trans hK (fun _ h => h.elim), h.own⟩
theorem SGot.mono {w w' : World} {TB b c : Nat} {rt : Int} {nv nv' : Value} {ns ms : List Nd} (h : SGot F w w' TB rt nv ns ms nv' b) (hc : b ≤ c) : SGot F w w' TB rt nv ns ms nv' c := ⟨h.tr, h.keep, h.own, Nat.le_trans h.bd hc⟩
theorem SGot.trans {w w1 w2 : World} {TB b b2 : Nat} {rt : Int} {nv nv1 nv2 : Value} {ns ms ms2 : List Nd} (h : SGot F w w1 TB rt nv ns ms nv1 b) (h2 : SGot F w1 w2 TB rt nv1 (ns ++ ms) ms2 nv2 b2) : SGot F w w2 TB rt nv ns (ms ++ ms2) nv2 (b + b2) := by
  have hz := h.keep.size
  refine ⟨by rw [← List.append_assoc]; exact h2.tr, TS.under h.keep h2.keep h.own, fun k hk => ?_, by have := h.bd; have := h2.bd; rw [List.length_append]; omega⟩
  rcases h2.own k hk with h1 | h1
  · exact h.own k h1
  · exact .inr (by omega)
theorem RepL.sel {ns : List Nd} {l : List ET} {ks : List Nat} (h : RepL ns l ks) : ∀ o : List Nat, RepL ns (Ex.sel l o) (Ex.sel ks o)
  | [] => rfl
  | k :: o => by
    have ih := RepL.sel h o
    unfold Ex.sel at ih ⊢
    rw [List.filterMap_cons, List.filterMap_cons]
    cases hl : l[k]? with
    | none =>
      have h1 : l.length ≤ k := List.getElem?_eq_none_iff.1 hl
      have h2 : ks[k]? = none := List.getElem?_eq_none_iff.2 (by rw [h.length]; exact h1)
      rw [h2]
      exact ih
    | some e =>
      obtain ⟨m, hm, hr⟩ := h.nth k e hl
      rw [hm]
      exact ⟨m, _, rfl, hr, ih⟩
/-- The rows so far. -/
def goodT (ks : List ET) (n m : Nat) : List ET := (((List.range m).map (digs n)).filter nodup).map fun o => .node 4 ByteArray.empty (sel ks o)
theorem goodT_succ (ks : List ET) (n m : Nat) : goodT ks n (m + 1) = goodT ks n m ++ if nodup (digs n m) = true then [.node 4 ByteArray.empty (sel ks (digs n m))] else [] := by
  unfold goodT
  rw [List.range_succ, List.map_append, List.filter_append, List.map_append]
  congr 1
  simp only [List.map_cons, List.map_nil, List.filter_cons, List.filter_nil]
  split <;> rfl
theorem goodT_len (ks : List ET) (n m : Nat) : (goodT ks n m).length ≤ m := by
  unfold goodT
  rw [List.length_map]
  refine Nat.le_trans (List.length_filter_le _ _) ?_
  simp
theorem goodT_all (ks : List ET) (h : ks.length ≤ 4) : ET.node 5 ByteArray.empty (goodT ks ks.length (ks.length ^ ks.length)) = allOf ks := by
  unfold allOf goodT
  rw [ord_eq _ h]
  rfl
theorem cntL_length : ∀ l : List ET, l.length ≤ cntL l
  | [] => by simp
  | x :: l => by have := cnt_pos x; have := cntL_length l; simp only [List.length_cons, cntL]; omega
set_option maxRecDepth 100000 in
set_option maxHeartbeats 4000000 in
theorem refSpread_node (ke : Nat) (wde : ByteArray) (l : List ET) (hwf : WF (.node ke wde l)) (IH : ∀ e, e ∈ l → RSpdOK e) : RSpdOK (.node ke wde l) := by
  intro F w TB rt nv ns n hF hT hrep hw
  simp only [Rep] at hrep
  obtain ⟨ks, hnd, hks⟩ := hrep
  have hkl : ks.length = l.length := hks.length
  obtain ⟨b, off, c1, A2, c2, hnl, hnm, g0, g1, g2, g3, hk1, hk2, hkc⟩ := hT.node hnd
  simp only at g1 g2 g3 hk1 hk2 hkc
  rw [hkl] at g3 hk1 hk2 hkc
  have hcnt : cnt (.node ke wde l) = 1 + cntL l := by simp only [cnt]
  have Hcnt := hid hcnt
  rw [hcnt] at hw
  have hlen : l.length ≤ 36000 := by have := cntL_length l; omega
  have hTa := hT.alloc (.cells #[.int .i64 (ke : Int), .string wde, .slice A2 l.length c2] 140)
  have hB0 : Blk (w.alloc (.cells #[.int .i64 (ke : Int), .string wde, .slice A2 l.length c2] 140)) w.heap.size 140 [.int .i64 (ke : Int), .string wde, .slice A2 l.length c2] := Blk.new w _ [_, _, _]
  have hnew := TS.new hT
  obtain ⟨W, hW⟩ : ∃ W, W = w.alloc (.cells #[.int .i64 (ke : Int), .string wde, .slice A2 l.length c2] 140) := ⟨_, rfl⟩
  have hKW : Keep (TS TB nv) w W := by rw [hW]; exact (Keep.refl _ w).alloc _
  have hFW : ∀ k, F k → k < W.heap.size := fun k hk => by have := hF k hk; have := hKW.size; omega
  have hkW : 0 < l.length → ∃ b2 off2, A2 = some ⟨b2, off2, none⟩ ∧ ∀ wr, Keep (TS TB nv) W wr → ∀ (j m : Nat), ks[j]? = some m → wr.cell? ⟨b2, off2 + j, none⟩ = some (.int .i64 (m : Int)) := by
    intro h0
    obtain ⟨b2, off2, rfl, hI, hc⟩ := hkc h0
    exact ⟨b2, off2, rfl, fun wr hwr j m hj => (hKW.trans' hwr).cell (hc j m hj) (isI.free hT hI)⟩
  rw [← hW] at hTa hB0
  clear hkl hnd hcnt hkc
  go_enter Try.func72, Try.ntmps72
  go_wp2_with fail
  rw [← hW]
  have HW := hid hW
  clear hW
  go_loopg [6, 7] l.length (fun g v i wr => ∃ kv k l0 ks0 ms nv1, kv = v ∧ k ≤ l.length ∧ g = l.length - k ∧ i = .int .i64 (k : Int) ∧ spdL (l.take k) = some l0 ∧ ks0.length = k ∧ S1 F W wr TB rt nv ns kv l0 ks0 ms nv1 (25 * cntL (l.take k)))
  case atStart => exact ⟨_, 0, [], [], [], nv, rfl, Nat.zero_le _, rfl, rfl, rfl, rfl, by rw [List.append_nil]; exact hTa.less (fun k _ h => h.elim id (fun e => by cases e)), World.ownsRow_nil _ _ _ _, rfl, by simp, Keep.refl _ _, fun k h => .inl h⟩
  case round =>
    clear g0 g1 g2 g3
    obtain ⟨kv, k, l0, ks0, ms, nv1, rfl, hkn, hg, rfl, hsp, hkk, hS⟩ := hrel
    have Hg := hid hg
    have Hsp := hid hsp
    have Hkk := hid hkk
    have hBr := hB0.keep hS.keep hnew
    have b0 := hBr.cellAt (i := 0) rfl
    have b1 := hBr.cellAt (i := 1) rfl
    have b2 := hBr.cellAt (i := 2) rfl
    have hct := cntL_take_le l k
    clear hg hsp hkk
    by_cases hlt : k < l.length
    · obtain ⟨m, hm1, hm2⟩ := hks.nth k l[k] (by simp [hlt])
      obtain ⟨B4, off4, rfl, hcell4⟩ := hkW (by omega)
      have d3 := hcell4 _ hS.keep _ _ hm1
      have hnx := cntL_take l k l[k] (by simp [hlt])
      have hct2 := cntL_take_le l (k + 1)
      have hsx := spdL_take l k l[k] l0 (by simp [hlt]) Hsp.out
      have hbd := hS.bd
      have hcl := IH _ (List.getElem_mem hlt) (FK F kv) _ TB rt nv1 (ns ++ ms) m (hS.forb hFW) hS.tr (Rep.more hm2) (by rw [List.length_append]; omega)
      have Hnx := hid hnx
      clear hm1 hm2 hnx
      cases hx : spd l[k] with
      | none =>
        rw [hx] at hcl hsx
        have hend := hid (show spd (.node ke wde l) = none by rw [spd, spdL_none l (k + 1) (by rw [hsx]; rfl)])
        clear hx hsx
        go_wp2_with fail
        refine hcl.mono ?_
        rintro r w2 ⟨ms2, nv2, rfl, hG⟩
        have HL := hid (hS.lost hKW hG (c := 25 * cnt (.node ke wde l)) (by rw [Hcnt.out]; have := Hnx.out; omega))
        clear hS hG hcl
        go_wp2_with fail
        go_ret
        rw [hend.out]
        exact ⟨_, _, rfl, HL.out⟩
      | some x =>
        rw [hx] at hcl hsx
        have hsx := hid (show spdL (l.take (k + 1)) = some (l0 ++ [x]) from hsx)
        clear hx
        go_wp2_with fail
        refine hcl.mono ?_
        rintro r w2 ⟨m2, ms2, nv2, rfl, hG, hr2⟩
        have hrow2 := TS.kids hS.tr hS.row hG.keep
        have hB2 : W.heap.size ≤ w2.heap.size := by have := hS.keep.size; have := hG.keep.size; omega
        have hln : ks0.length ≤ 40000 := by have := Hkk.out; omega
        clear hcl
        go_wp2_with (at_builtin; refine append_one W.heap.size rfl (.tmp 44) (.tmp 46) 47 3 _ 1 8 rfl Try.underlying47 int_info rfl (by decide) (by decide) _ ks0.length (ints ks0) [.int .i64 (m2 : Int)] rfl rfl rfl ?h1 hrow2 hB2 ?hl ?next)
        case h1 => intro u hu; simp at hu; subst hu; rfl
        case hl => omega
        case next =>
          intro b3 cap3 w3 hown3 hK3 hb3
          have hb3' : ∀ k, (Value.slice (some ⟨b3, 0, none⟩) (ks0.length + 1) cap3).ownBlock = some k → kv.ownBlock = some k ∨ w2.heap.size ≤ k := fun k hk => by have := ob hk; subst this; exact hb3
          have HN := hid ((hS.next hG hr2 hown3 hK3 hb3').mono (b' := 25 * cntL (l.take (k + 1))) (by have := Hnx.out; omega))
          clear hS hG hr2 hown3 hK3 hb3 hb3' hrow2
          go_wp2_with fail
          go_roundg (l.length - (k + 1))
          case measure => have := Hg.out; omega
          case rel => exact ⟨_, k + 1, _, _, _, _, rfl, by omega, rfl, rfl, hsx.out, by rw [List.length_append, Hkk.out]; rfl, HN.out⟩
    · have hke : k = l.length := by omega
      subst hke
      have hspl := Hsp.out
      rw [List.take_length] at hspl
      have hll : l0.length = l.length := (spdL_cnt hspl).1
      have hcc := (spdL_cnt hspl).2
      rw [List.take_length] at hS
      have hbd := hS.bd
      have hspd : spd (.node ke wde l) = spdK ke wde l0 := by rw [spd, hspl]
      have Hspd := hid hspd
      clear hspl hspd Hsp
      by_cases h6 : ke = 6
      · have t6 : (((ke : Nat) : Int) != 6) = false := by simp [h6]
        have hsk := hid (show spd (.node ke wde l) = if 4 < l0.length then none else chk (allOf l0) by rw [Hspd.out]; unfold spdK; rw [if_pos h6])
        have hl2 : 2 ≤ l.length := by
          simp only [WF] at hwf
          rcases hwf with ⟨h, -⟩ | ⟨h, -⟩ | ⟨-, -, h, -⟩ | ⟨h, -⟩
          · omega
          · omega
          · exact h
          · omega
        clear h6
        obtain ⟨A3, n3, c3, hkv, hn3, hnc3, hnm3, hcell3⟩ := hS.rdk hFW
        subst hkv
        obtain rfl : n3 = l.length := by simp [ints] at hn3; have := Hkk.out; omega
        by_cases h4 : 4 < l.length
        · have hres := hid (show spd (.node ke wde l) = none by rw [hsk.out, if_pos (by omega)])
          have HSG := hid (hS.stop hKW (c := 25 * cnt (.node ke wde l)) (by rw [Hcnt.out]; omega))
          clear hS
          go_wp2_with fail
          go_ret
          rw [hres.out]
          exact ⟨_, _, rfl, HSG.out⟩
        · have hsl := hid (show spd (.node ke wde l) = chk (allOf l0) by rw [hsk.out, if_neg (by omega)])
          obtain ⟨b3, off3, rfl, hok3, hcell3⟩ := hcell3 (by omega)
          have hpow : ∀ n : Nat, n ≤ 4 → ∀ k : Nat, k ≤ n → n ^ k ≤ 256 := by decide
          have hn4 : l.length ≤ 4 := by omega
          have Hpow := hid (hpow l.length hn4)
          clear hpow h4 hn3
          go_wp2_with fail
          go_loopg [11, 12] l.length (fun g a i wq => ∃ k, k ≤ l.length ∧ g = l.length - k ∧ i = .int .i64 (k : Int) ∧ a = .int .i64 ((l.length ^ k : Nat) : Int) ∧ wr = wq)
          case atStart => exact ⟨0, Nat.zero_le _, rfl, rfl, rfl, rfl⟩
          case round =>
            obtain ⟨k, hk, hg, rfl, rfl, rfl⟩ := hrel
            have Hg2 := hid hg
            clear hg
            have hp1 := Hpow.out k hk
            by_cases hlt2 : k < l.length
            · have hp2 := Hpow.out (k + 1) (by omega)
              rw [Nat.pow_succ] at hp2
              obtain ⟨P, hP⟩ : ∃ P, P = l.length ^ k := ⟨_, rfl⟩
              rw [← hP] at hp1 hp2
              have HP := hid (show l.length ^ (k + 1) = P * l.length by rw [Nat.pow_succ, hP])
              rw [← hP]
              clear hP
              have hp3 : (P : Int) * (l.length : Int) ≤ 256 := by exact_mod_cast hp2
              have hp4 : 0 ≤ (P : Int) * (l.length : Int) := Int.mul_nonneg (by omega) (by omega)
              go_wp2_with fail
              go_roundg (l.length - (k + 1))
              case measure => have := Hg2.out; omega
              case rel => exact ⟨k + 1, by omega, rfl, rfl, by rw [HP.out]; rfl, rfl⟩
            · obtain rfl : k = l.length := by omega
              obtain ⟨Q, hQ⟩ : ∃ Q, Q = l.length ^ l.length := ⟨_, rfl⟩
              rw [← hQ]
              rw [← hQ] at hp1
              have HQ := hid hQ
              have HT0 := hid (show S1 F wr wr TB rt nv1 (ns ++ ms) (.slice none 0 0) (goodT l0 l.length 0) [] [] nv1 0 from ⟨by rw [List.append_nil]; exact hS.tr.less (fun k _ h => h.elim .inl (fun e => by cases e)), World.ownsRow_nil _ _ _ _, rfl, by simp, Keep.refl _ _, fun k h => .inl h⟩)
              have hrowk := hS.row
              obtain ⟨W3, rfl⟩ : ∃ W3, W3 = wr := ⟨wr, rfl⟩
              clear hQ Hg2 hlt2 hcell3
              go_wp2_with fail
              go_loopg [10, 13] Q (fun g rv iv wq => ∃ kv m ksR ms3 nv3, kv = rv ∧ m ≤ Q ∧ g = Q - m ∧ iv = .int .i64 (m : Int) ∧ ksR.length = (goodT l0 l.length m).length ∧ S1 F W3 wq TB rt nv1 (ns ++ ms) kv (goodT l0 l.length m) ksR ms3 nv3 (goodT l0 l.length m).length)
              case atStart => exact ⟨_, 0, [], [], nv1, rfl, Nat.zero_le _, rfl, rfl, rfl, HT0.out⟩
              case round =>
                obtain ⟨rv, m, ksR, ms3, nv3, rfl, hm, hg, rfl, hkl3, hS3⟩ := hrel
                have Hg3 := hid hg
                have Hkl3 := hid hkl3
                have hgl := goodT_len l0 l.length m
                have hbd3 := hS3.bd
                have hrk := TS.kids hS.tr hrowk hS3.keep
                clear hg hkl3 HT0
                by_cases hlt3 : m < Q
                · have hmk := run_make_row' (P := Try.prog) 203 4 (.bool false) 1 Try.underlying203 bool_info rfl .i64 .i64 l.length (by omega) (by omega)
                  have hmc : madeCells #[Value.bool false] l.length = (markL l.length []).toArray := made_mark l.length
                  rw [hmc] at hmk
                  have Hmc := hid hmc
                  clear hmc
                  obtain ⟨Wm, rfl⟩ : ∃ Wm, Wm = wr := ⟨wr, rfl⟩
                  have hBu : Blk (Wm.alloc (.cells (markL l.length []).toArray 4)) Wm.heap.size 4 (markL l.length []) := Blk.new Wm _ _
                  have hrk3 : ∀ (j y : Nat), ks0[j]? = some y → Wm.cell? ⟨b3, off3 + j, none⟩ = some (.int .i64 (y : Int)) := by
                    intro j y hj
                    obtain ⟨A', n', c', hv, -, -, -, hc'⟩ := Own.rd hrk (ok := fun _ => True) (fun _ _ => True.intro)
                    simp only [Value.slice.injEq] at hv
                    obtain ⟨rfl, rfl, rfl⟩ := hv
                    obtain ⟨b', off', he, -, hc2⟩ := hc' (by omega)
                    simp only [Option.some.injEq, Addr.mk.injEq, and_true] at he
                    obtain ⟨rfl, rfl⟩ := he
                    exact hc2 j _ (by simp [ints, hj])
                  have hb3 : b3 < Wm.heap.size := by have := hS3.keep.size; have := hok3.1.lt; omega
                  go_wp2_with fail
                  go_loopg [14, 16, 17, 18] l.length (fun g ov gv dv iv wx => ∃ kv i, kv = ov ∧ i ≤ l.length ∧ g = l.length - i ∧ iv = .int .i64 (i : Int) ∧ dv = .int .i64 ((l.length ^ (l.length - i) : Nat) : Int) ∧ gv = .bool (nodup ((digs l.length m).take i)) ∧
                    wx.ownsRow (Wm.heap.size + 1) 3 1 kv i (ints (sel ks0 ((digs l.length m).take i))) ∧ Blk wx Wm.heap.size 4 (markL l.length ((digs l.length m).take i)) ∧ Keep (fun _ => False) Wm wx)
                  case atStart => exact ⟨_, 0, rfl, Nat.zero_le _, rfl, rfl, by rw [HQ.out]; rfl, rfl, World.ownsRow_nil _ _ _ _, hBu, (Keep.refl _ Wm).alloc _⟩
                  case round =>
                    obtain ⟨ov, i, rfl, hi, hg, rfl, rfl, rfl, hro, hBv, hKv⟩ := hrel
                    have Hg4 := hid hg
                    clear hg hBu hmk
                    have hro1 := hro.1
                    by_cases hlt4 : i < l.length
                    · have hdn : dig l.length m i < l.length := dig_lt (by omega)
                      have hk0 : ks0.length = l.length := Hkk.out
                      have hgk : ks0[dig l.length m i]? = some (ks0[dig l.length m i]'(by omega)) := List.getElem?_eq_getElem _
                      have hsnoc := sel_snoc ks0 ((digs l.length m).take i) _ _ hgk
                      rw [← digs_take hlt4] at hsnoc
                      have hnd := nodup_snoc ((digs l.length m).take i) (dig l.length m i)
                      rw [← digs_take hlt4] at hnd
                      have hset := markL_set (L := (digs l.length m).take i) hdn
                      rw [← digs_take hlt4] at hset
                      have hp4 := Hpow.out (l.length - i) (by omega)
                      have hp5 := Hpow.out (l.length - 1 - i) (by omega)
                      have hpos : 0 < l.length ^ (l.length - 1 - i) := Nat.pow_pos (by omega)
                      have hD : l.length ^ (l.length - i) / l.length = l.length ^ (l.length - 1 - i) := by
                        rw [show l.length - i = l.length - 1 - i + 1 from by omega, Nat.pow_succ]
                        exact Nat.mul_div_cancel _ (by omega)
                      have hgt := markL_get (L := (digs l.length m).take i) hdn
                      have u0 := hBv.cellAt hgt
                      have y0 := hKv.cell (hrk3 _ _ hgk) (fun h => h)
                      have f0 := hBv.frozen (dig l.length m i)
                      have e2 : (m : Int) / ((l.length ^ (l.length - 1 - i) : Nat) : Int) = ((m / l.length ^ (l.length - 1 - i) : Nat) : Int) := by norm_cast
                      have e3 : ((m / l.length ^ (l.length - 1 - i) : Nat) : Int) % (l.length : Int) = ((dig l.length m i : Nat) : Int) := by unfold dig; norm_cast
                      have hE : m / l.length ^ (l.length - 1 - i) ≤ 256 := by have := Nat.div_le_self m (l.length ^ (l.length - 1 - i)); omega
                      have e1 : ((l.length ^ (l.length - i) : Nat) : Int) / (l.length : Int) = ((l.length ^ (l.length - 1 - i) : Nat) : Int) := by
                        rw [← hD]; norm_cast
                      have hdm : l.length ^ (l.length - (i + 1)) = l.length ^ (l.length - 1 - i) := by rw [show l.length - (i + 1) = l.length - 1 - i from by omega]
                      have Hdm := hid hdm
                      have hneb : ¬ b3 = Wm.heap.size := by omega
                      generalize m / l.length ^ (l.length - 1 - i) = E at *
                      generalize l.length ^ (l.length - 1 - i) = D2 at *
                      generalize l.length ^ (l.length - i) = D at *
                      generalize ks0[dig l.length m i]'(by omega) = y at *
                      generalize dig l.length m i = k at *
                      have Hsn := hid hsnoc
                      have Hnd := hid hnd
                      have Hset := hid hset
                      have Hdig := hid (rfl : (digs l.length m).take (i + 1) = (digs l.length m).take (i + 1))
                      have HBv := hid hBv
                      generalize hgb : nodup ((digs l.length m).take i) = gb at *
                      generalize hcb : ((digs l.length m).take i).contains k = cb at *
                      have hcx : (i + 1) * 8 ≤ 1000 := by omega
                      clear hsnoc hnd hset hdm hD hgk hgt hgb hcb hk0 hro1
                      have hro2 := Own.keep (S := (· = Wm.heap.size)) hro ((Keep.refl _ _).put k (.bool true)) (fun q hq e => by have := (hro.lt q hq).1; omega)
                      have hB6 := HBv.out.set k (.bool true)
                      have hK6 := hKv.setCell (p := ⟨Wm.heap.size, k, none⟩) (.inr (Nat.le_refl _)) (.bool true)
                      have hsz6 : Wm.heap.size + 1 ≤ (wr.setCell ⟨Wm.heap.size, k, none⟩ (.bool true)).heap.size := by have := hBv.lt; simp; omega
                      have y6 : (wr.setCell ⟨Wm.heap.size, k, none⟩ (.bool true)).cell? ⟨b3, off3 + k, none⟩ = some (.int .i64 (y : Int)) := ((Keep.refl (· = Wm.heap.size) wr).put k (.bool true)).cell y0 (fun e => hneb e)
                      have hov : ∀ q, ov.ownBlock = some q → Wm.heap.size + 1 ≤ q := fun q hq => (hro.lt q hq).1
                      clear hro hKv
                      cases gb
                      · go_upto_region 35 with fail
                        obtain ⟨W6, hW6⟩ : ∃ W6, W6 = wr.setCell ⟨Wm.heap.size, k, none⟩ (.bool true) := ⟨_, rfl⟩
                        rw [← hW6] at hro2 hB6 hK6 hsz6 y6 ⊢
                        clear hW6
                        go_wp2_with (at_builtin; refine append_one (Wm.heap.size + 1) rfl (.tmp 108) (.tmp 113) 47 3 _ 1 8 rfl Try.underlying47 int_info rfl (by decide) (by decide) _ i (ints (sel ks0 ((digs l.length m).take i))) [.int .i64 (y : Int)] rfl rfl rfl ?h1x hro2 ?hBx ?hlx ?nextx)
                        case h1x => rfl
                        case hlx => omega
                        case nextx =>
                          intro b5 cap5 w5 hown5 hK5 hb5
                          have hB7 := hB6.keep hK5 (fun e => by have := hov _ e; omega)
                          have hK7 := hK6.trans hK5 (fun q hq => .inr (by have := hov _ hq; omega))
                          rw [Hset.out] at hB7
                          rw [← ints_snoc, ← Hsn.out] at hown5
                          clear hK5 hb5 hBv hB6 hK6 hro2
                          go_wp2_with fail
                          go_roundg (l.length - (i + 1))
                          case measure => have := Hg4.out; omega
                          case rel => exact ⟨_, i + 1, rfl, by omega, rfl, rfl, by rw [Hdm.out], by rw [Hnd.out]; rfl, hown5, hB7, hK7⟩
                      · go_upto_region 35 with fail
                        obtain ⟨W6, hW6⟩ : ∃ W6, W6 = wr.setCell ⟨Wm.heap.size, k, none⟩ (.bool true) := ⟨_, rfl⟩
                        rw [← hW6] at hro2 hB6 hK6 hsz6 y6 ⊢
                        clear hW6
                        go_wp2_with (at_builtin; refine append_one (Wm.heap.size + 1) rfl (.tmp 108) (.tmp 113) 47 3 _ 1 8 rfl Try.underlying47 int_info rfl (by decide) (by decide) _ i (ints (sel ks0 ((digs l.length m).take i))) [.int .i64 (y : Int)] rfl rfl rfl ?h1y hro2 ?hBy ?hly ?nexty)
                        case h1y => rfl
                        case hly => omega
                        case nexty =>
                          intro b5 cap5 w5 hown5 hK5 hb5
                          have hB7 := hB6.keep hK5 (fun e => by have := hov _ e; omega)
                          have hK7 := hK6.trans hK5 (fun q hq => .inr (by have := hov _ hq; omega))
                          rw [Hset.out] at hB7
                          rw [← ints_snoc, ← Hsn.out] at hown5
                          clear hK5 hb5 hBv hB6 hK6 hro2
                          go_wp2_with fail
                          go_roundg (l.length - (i + 1))
                          case measure => have := Hg4.out; omega
                          case rel => exact ⟨_, i + 1, rfl, by omega, rfl, rfl, by rw [Hdm.out], by rw [Hnd.out]; rfl, hown5, hB7, hK7⟩
                    · obtain rfl : i = l.length := by omega
                      have hdt : (digs l.length m).take l.length = digs l.length m := by rw [List.take_of_length_le (by rw [digs_len]; exact Nat.le_refl _)]
                      have hns : (ns ++ ms ++ ms3).length ≤ 1000000 := by rw [List.length_append, List.length_append]; have := goodT_len l0 l.length m; omega
                      have hTm := hS3.tr.same hKv
                      have hFm := hS3.forb (fun k hk => by have := hFW k hk; have := hS.keep.size; omega)
                      have hgs := goodT_succ l0 l.length m
                      have Hgs := hid hgs
                      have hLx := hid (RepL.sel hS.rep (digs l.length m))
                      have hkr : ksR.length ≤ 256 := by rw [Hkl3.out]; have := goodT_len l0 l.length m; omega
                      rw [hdt] at hro
                      have HBv := hid hBv
                      have Hdt := hid hdt
                      clear hBv hdt hgs hrk3
                      cases hnd : nodup (digs l.length m) with
                      | false =>
                        have hfl : nodup ((digs l.length m).take l.length) = false := by rw [Hdt.out]; exact hnd
                        rw [hfl]
                        have Hnd := hid hnd
                        clear hfl hnd
                        have HS4 := hid (hS3.same hKv)
                        have HG := hid (show goodT l0 l.length (m + 1) = goodT l0 l.length m by rw [Hgs.out, if_neg (by rw [Hnd.out]; decide), List.append_nil])
                        clear hTm hKv hro
                        go_wp2_with fail
                        go_roundg (Q - (m + 1))
                        case measure => have := Hg3.out; omega
                        case rel => exact ⟨_, m + 1, ksR, ms3, nv3, rfl, by omega, rfl, rfl, by rw [HG.out]; exact Hkl3.out, by rw [HG.out]; exact HS4.out⟩
                      | true =>
                        have hfl : nodup ((digs l.length m).take l.length) = true := by rw [Hdt.out]; exact hnd
                        rw [hfl]
                        have Hnd := hid hnd
                        clear hfl hnd
                        have hrd4 : Rd wr (okI (FK F rv) wr) ov 1 (ints (sel ks0 (digs l.length m))) := Own.rd hro (fun q hq => ⟨isI.own hro q hq, fun e => by have := hFm q e; have := (hro.lt q hq).1; omega⟩)
                        obtain ⟨A6, n6, c6, hov⟩ : ∃ A n c, ov = .slice A n c := by obtain ⟨A, n, c, h, -⟩ := hrd4; exact ⟨A, n, c, h⟩
                        subst hov
                        have hadd := add_any TB nv3 (ns ++ ms ++ ms3) ⟨4, ByteArray.empty, sel ks0 (digs l.length m)⟩ A6 n6 c6 _ hTm hns hrd4
                        obtain ⟨N, hN⟩ : ∃ N, N = (ns ++ ms ++ ms3).length := ⟨_, rfl⟩
                        rw [← hN] at hadd
                        have HN := hid hN
                        clear hN
                        go_wp2_with fail
                        refine hadd.mono ?_
                        rintro e w7 ⟨nv7, rfl, hT7, hK7, hb7⟩
                        have hG7 : SGot (FK F rv) Wm w7 TB rt nv3 (ns ++ ms ++ ms3) [⟨4, ByteArray.empty, sel ks0 (digs l.length m)⟩] nv7 1 := ⟨hT7, (hKv.mono (fun _ _ h => h.elim)).trans' hK7, fun q hq => (hb7 q hq).imp id (fun h => by have := hKv.size; omega), Nat.le_refl _⟩
                        have hR7 : Rep (ns ++ ms ++ ms3 ++ [⟨4, ByteArray.empty, sel ks0 (digs l.length m)⟩]) (.node 4 ByteArray.empty (sel l0 (digs l.length m))) N := by
                          rw [HN.out]
                          exact Rep.new _ _ _ _ _ (RepL.more hLx.out)
                        have hrow7 := TS.kids hS3.tr hS3.row hG7.keep
                        have hB7 : W3.heap.size ≤ w7.heap.size := by have := hS3.keep.size; have := hG7.keep.size; omega
                        have hl7 : (ksR.length + 1) * 8 ≤ 140737488355328 := by omega
                        have hK8 := hG7.keep
                        clear hT7 hK7 hb7 hadd hTm hKv hrd4 hro
                        go_wp2_with (at_builtin; refine append_one W3.heap.size rfl (.tmp 120) (.tmp 122) 47 3 _ 1 8 rfl Try.underlying47 int_info rfl (by decide) (by decide) _ ksR.length (ints ksR) [.int .i64 (N : Int)] rfl rfl rfl ?h1z hrow7 hB7 ?hlz ?nextz)
                        case h1z => intro u hu; simp at hu; subst hu; rfl
                        case hlz => omega
                        case nextz =>
                          intro b9 cap9 w9 hown9 hK9 hb9
                          have hb9' : ∀ k, (Value.slice (some ⟨b9, 0, none⟩) (ksR.length + 1) cap9).ownBlock = some k → rv.ownBlock = some k ∨ w7.heap.size ≤ k := fun k hk => by have := ob hk; subst this; exact hb9
                          have HS9 := hid (hS3.next hG7 hR7 hown9 hK9 hb9')
                          have HG := hid (show goodT l0 l.length (m + 1) = goodT l0 l.length m ++ [.node 4 ByteArray.empty (sel l0 (digs l.length m))] by rw [Hgs.out, if_pos Hnd.out])
                          clear hown9 hK9 hb9 hb9' hG7 hR7 hrow7
                          go_wp2_with fail
                          go_roundg (Q - (m + 1))
                          case measure => have := Hg3.out; omega
                          case rel => exact ⟨_, m + 1, ksR ++ [N], _, nv7, rfl, by omega, rfl, rfl, by rw [HG.out]; simp only [List.length_append, List.length_cons, List.length_nil]; have := Hkl3.out; omega, by rw [HG.out, List.length_append]; exact HS9.out⟩
                · obtain rfl : m = Q := by omega
                  have hl4 : l0.length ≤ 4 := by omega
                  have hgt := goodT_all l0 hl4
                  rw [hll, ← HQ.out] at hgt
                  have hgl24 : (goodT l0 l.length m).length ≤ 24 := by
                    have h1 := (ord_small l0.length hl4).1
                    have h2 : (goodT l0 l.length m).length = (ord l0.length).length := by
                      unfold allOf at hgt
                      simp only [ET.node.injEq, true_and] at hgt
                      rw [hgt, List.length_map]
                    omega
                  have hac := all_cnt hl4 (B := 16384) (fun e he => by have := cntL_mem he; omega)
                  rw [← hgt] at hac
                  have Hgt := hid hgt
                  have hTr : TAt F wr TB nv3 (ns ++ ms ++ ms3) rt := hS3.tr.less (fun k _ h => .inl h)
                  have hFW3 : ∀ k, F k → k < W3.heap.size := fun k hk => by have := hFW k hk; have := hS.keep.size; omega
                  have hrd := hS3.rdk hFW3
                  obtain ⟨A6, n6, c6, hkv⟩ : ∃ A n c, rv = .slice A n c := by obtain ⟨A, n, c, h, -⟩ := hrd; exact ⟨A, n, c, h⟩
                  subst hkv
                  have hadd := add_any TB nv3 (ns ++ ms ++ ms3) ⟨5, ByteArray.empty, ksR⟩ A6 n6 c6 _ hTr (by rw [List.length_append, List.length_append]; omega) hrd
                  obtain ⟨N, hN⟩ : ∃ N, N = (ns ++ ms ++ ms3).length := ⟨_, rfl⟩
                  rw [← hN] at hadd
                  have HN := hid hN
                  clear hN hgt
                  go_wp2_with fail
                  refine hadd.mono ?_
                  rintro e w5 ⟨nv5, rfl, hT5, hK5, hb5⟩
                  obtain ⟨hSG3, hRp⟩ := hS3.over (c := 25) (Keep.refl _ _) hT5 hK5 hb5 (by omega)
                  have hSG := (hS.stop hKW (Nat.le_refl _)).trans hSG3
                  have hSG := hSG.mono (c := 25 * cnt (.node ke wde l)) (by rw [Hcnt.out]; omega)
                  rw [← HN.out, List.append_assoc] at hRp
                  have hsz := refSize_any _ w5 TB rt _ _ hSG.tr.trd2 hRp (by omega)
                  have HSG := hid hSG
                  have HRp := hid hRp
                  clear hS hS3 hTr hrd hT5 hK5 hb5 hSG hRp hadd hSG3
                  go_wp2_with fail
                  refine hsz.mono ?_
                  rintro r w6 ⟨rfl, rfl⟩
                  clear hsz
                  by_cases hbig : 4096 < cnt (.node 5 ByteArray.empty (goodT l0 l.length m))
                  · have hres := hid (show spd (.node ke wde l) = none by rw [hsl.out, ← Hgt.out]; unfold chk; rw [if_pos hbig])
                    go_wp2_with fail
                    go_ret
                    rw [hres.out]
                    exact ⟨_, _, rfl, HSG.out⟩
                  · have hres := hid (show spd (.node ke wde l) = some (.node 5 ByteArray.empty (goodT l0 l.length m)) by rw [hsl.out, ← Hgt.out]; unfold chk; rw [if_neg hbig])
                    go_wp2_with fail
                    go_ret
                    rw [hres.out]
                    exact ⟨N, _, _, rfl, HSG.out, HRp.out⟩
      · have t6 : (((ke : Nat) : Int) != 6) = true := by simp; omega
        have hsk := hid (show spd (.node ke wde l) = chk (.node ke wde l0) by rw [Hspd.out]; unfold spdK; rw [if_neg h6])
        have hTr : TAt F wr TB nv1 (ns ++ ms) rt := hS.tr.less (fun k _ h => .inl h)
        have hrd := hS.rdk hFW
        have hcx : cnt (.node ke wde l0) ≤ 1099511627776 := by simp only [cnt]; omega
        clear h6
        obtain ⟨A3, n3, c3, hkv⟩ : ∃ A3 n3 c3, kv = .slice A3 n3 c3 := by obtain ⟨A, n, c, h, -⟩ := hrd; exact ⟨A, n, c, h⟩
        subst hkv
        have hadd := add_any TB nv1 (ns ++ ms) ⟨ke, wde, ks0⟩ A3 n3 c3 _ hTr (by rw [List.length_append]; omega) hrd
        obtain ⟨N, hN⟩ : ∃ N, N = (ns ++ ms).length := ⟨_, rfl⟩
        rw [← hN] at hadd
        have HN := hid hN
        clear hN
        go_wp2_with fail
        refine hadd.mono ?_
        rintro e w5 ⟨nv5, rfl, hT5, hK5, hb5⟩
        obtain ⟨hSG, hRp⟩ := hS.over (c := 25 * cnt (.node ke wde l)) hKW hT5 hK5 hb5 (by rw [Hcnt.out]; omega)
        rw [← HN.out] at hRp
        have hsz := refSize_any _ w5 TB rt _ _ hSG.tr.trd2 hRp hcx
        have HSG := hid hSG
        have HRp := hid hRp
        clear hS hTr hrd hT5 hK5 hb5 hSG hRp hadd
        go_wp2_with fail
        refine hsz.mono ?_
        rintro r w6 ⟨rfl, rfl⟩
        clear hsz
        by_cases hbig : 4096 < cnt (.node ke wde l0)
        · have hres := hid (show spd (.node ke wde l) = none by rw [hsk.out]; unfold chk; rw [if_pos hbig])
          go_wp2_with fail
          go_ret
          rw [hres.out]
          exact ⟨_, _, rfl, HSG.out⟩
        · have hres := hid (show spd (.node ke wde l) = some (.node ke wde l0) by rw [hsk.out]; unfold chk; rw [if_neg hbig])
          go_wp2_with fail
          go_ret
          rw [hres.out]
          exact ⟨N, _, _, rfl, HSG.out, HRp.out⟩
mutual
theorem refSpread_any : ∀ e : ET, WF e → RSpdOK e
  | .node k wd l, h => refSpread_node k wd l h (refSpread_anyL l (by
      simp only [WF] at h
      rcases h with ⟨-, -, h⟩ | ⟨-, -, h⟩ | ⟨-, -, -, h⟩ | ⟨-, -, -, h⟩
      · rw [h]; trivial
      · rw [h]; trivial
      · exact h
      · exact h))
theorem refSpread_anyL : ∀ l : List ET, WFL l → ∀ e, e ∈ l → RSpdOK e
  | [], _, e, h => absurd h (by simp)
  | x :: l, hw, e, h => by
    simp only [WFL] at hw
    rcases List.mem_cons.1 h with h | h
    · rw [h]; exact refSpread_any x hw.1
    · exact refSpread_anyL l hw.2 e h
end
end Ex
end Go.Proofs.Ytfgkcifkfokoiaa
