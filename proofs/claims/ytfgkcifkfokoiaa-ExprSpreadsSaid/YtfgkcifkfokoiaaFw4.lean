/- The walk through item of beadleref14. -/
import Derived.Test.YtfgkcifkfokoiaaFw3
import Derived.Deep.CutRange
import Derived.Deep.CutBlock
set_option linter.unusedVariables false
set_option linter.unusedSimpArgs false
namespace Go.Proofs.Ytfgkcifkfokoiaa
open Go.RowKit
namespace Ex
variable {F : Nat → Prop}
theorem Got.star {w W W2 W4 : World} {R TB : Nat} {s : ByteArray} {nest i b j' n k : Nat} {nv nv1 nv2 : Value} {ns ms : List Nd} {e : ET} (h : Got F w W R TB s nest i nv ns e b n ms nv1) (hT2 : TAt F W2 TB nv2 (ns ++ ms ++ [⟨k, ByteArray.empty, [n]⟩]))
    (hK2 : Keep (TS TB nv1) W W2) (hb : ∀ k, nv2.ownBlock = some k → nv1.ownBlock = some k ∨ W.heap.size ≤ k) (hK3 : Keep (· = R) W2 W4) (hR4 : RAt W4 R s j' nest 0 0) (hj : b < j') :
    Got F w W4 R TB s nest i nv ns (.node k ByteArray.empty [e]) j' (ns ++ ms).length (ms ++ [⟨k, ByteArray.empty, [n]⟩]) nv2 := by
  have hR2 := h.rd.added h.tr hK2
  have hsz := h.keep.size
  refine ⟨hR4, ?_, ?_, ?_, ?_, ?_⟩
  · rw [← List.append_assoc]; exact hT2.read hR2 hK3
  · rw [← List.append_assoc]
    exact Rep.new _ k _ [n] [e] ⟨n, [], rfl, h.rep, rfl⟩
  · have := h.bd
    simp only [List.length_append, List.length_cons, List.length_nil]
    omega
  · refine (h.keep.trans hK2 ?_).trans hK3 (fun k hk => .inl (.inl hk))
    rintro k (hk | hk)
    · exact .inl (.inr (.inl hk))
    · rcases h.own k hk with h1 | h1
      · exact .inl (.inr (.inr h1))
      · exact .inr h1
  · intro k hk
    rcases hb k hk with h1 | h1
    · exact h.own k h1
    · exact .inr (by omega)
theorem rd_one (w : World) (hF : ∀ k, F k → k < w.heap.size) (n : Nat) : Rd (w.alloc (.cells #[.int .i64 (n : Int)] 3)) (okI F (w.alloc (.cells #[.int .i64 (n : Int)] 3))) (.slice (some ⟨w.heap.size, 0, none⟩) 1 1) 1 (ints [n]) :=
  Own.rd (Own.new w 0 3 1 1 [.int .i64 (n : Int)] rfl (Nat.zero_le _) (by decide)) (fun k hk => by
    have := ob hk
    subst this
    exact ⟨⟨_, _, heap_alloc_at w _⟩, fun h => by have := hF _ h; omega⟩)
theorem TAt.alloc {rt : Int} {w : World} {TB : Nat} {nv : Value} {ns : List Nd} (h : TAt F w TB nv ns rt) (o : Obj) : TAt F (w.alloc o) TB nv ns rt := by
  obtain ⟨h1, xs, h2, h3⟩ := h
  have hK := (Keep.refl (fun _ => False) w).alloc o
  exact ⟨h1.keep hK (fun h => h), xs, Own.keep h2 hK (fun _ _ h => h), h3.step hK (fun _ _ h => h)⟩
theorem stars_stop {s : ByteArray} {fu : Nat} {e : ET} {b : Nat} (h : star? (here s b) = 0) : stars s fu e b = (e, b) := by
  cases fu with
  | zero => rfl
  | succ fu => rw [stars, if_pos h]
theorem stars_step {s : ByteArray} {fu : Nat} {e : ET} {b k : Nat} (hf : s.size - b < fu) (h : star? (here s b) = k) (hk : k ≠ 0) : ∃ g, fu = g + 1 ∧ stars s fu e b = stars s g (.node k ByteArray.empty [e]) (blanksEnd s (b + 1)) := by
  cases fu with
  | zero => omega
  | succ fu => exact ⟨fu, rfl, by rw [stars, h, if_neg hk]⟩

theorem exact_at {s : ByteArray} {a c : Nat} : ∀ {l : List Nat} {i : Nat}, (∀ c ∈ l, c ≠ 0) → exact l s i = .bad a c → i ≤ s.size → i ≤ a ∧ a ≤ s.size ∧ c = 3
  | [], i, _, h, _ => by cases h
  | x :: l, i, h0, h, hi => by
    unfold exact at h
    split at h
    · rename_i hh
      have hlt := here_lt (s := s) (i := i) (by rw [hh]; exact h0 x (by simp))
      have := exact_at (fun c hc => h0 c (by simp [hc])) h (by omega)
      omega
    · simp only [Ex.R.bad.injEq] at h
      omega
theorem text_skip (R : Nat) (s : ByteArray) (i nest b e : Nat) (he : e ≠ 0) (w : World) (h : RAt w R s i nest b e) (t : ByteArray) (ht : t.size ≤ 100) :
    Calls Try.prog 152 #[.pointer (some ⟨R, 0, none⟩), .string t] w fun e w' => e = .returned (.tuple #[]) ∧ w' = w := by
  have c4 := h.cellAt (i := 4) rfl
  have t4 : ((e : Int) == 0) = false := by simpa using (by omega : ¬ (e : Int) = 0)
  go_enter Try.func152, Try.ntmps152
  go_wp2_with fail
  go_loopg [4] 0 (fun g v wr => v = .int .i64 0 ∧ wr = w)
  case atStart => exact ⟨rfl, rfl⟩
  case round =>
    obtain ⟨rfl, rfl⟩ := hrel
    by_cases h0 : 0 < t.size
    · go_wp2_with fail
      go_end0
      exact ⟨rfl, rfl⟩
    · go_wp2_with fail
      go_end0
      exact ⟨rfl, rfl⟩
theorem RS.step {w w1 w2 w3 : World} {R TB : Nat} {nv : Value} (hK : Keep (· = R) w w1) (h : Keep (RS R TB nv) w1 w2) (hK3 : Keep (· = R) w2 w3) : Keep (RS R TB nv) w w3 :=
  ((hK.mono (fun k _ h => .inl h)).trans' h).trans hK3 (fun k hk => .inl (.inl hk))
theorem Got.up {w w1 w2 w3 : World} {R TB : Nat} {s : ByteArray} {nest nest1 i i1 j j' n : Nat} {nv nv' : Value} {ns ms : List Nd} {e : ET} (hK : Keep (· = R) w w1) (h : Got F w1 w2 R TB s nest1 i1 nv ns e j n ms nv') (hK3 : Keep (· = R) w2 w3) (hR3 : RAt w3 R s j' nest 0 0) (hi : i ≤ i1) (hj : j ≤ j') :
    Got F w w3 R TB s nest i nv ns e j' n ms nv' :=
  ⟨hR3, h.tr.read h.rd hK3, h.rep, by have := h.bd; omega, RS.step hK h.keep hK3, fun k hk => (h.own k hk).imp id (fun h => by have := hK.size; omega)⟩
theorem Got.fell {w w1 w2 w3 : World} {R TB : Nat} {s : ByteArray} {nest nest1 i i1 j P a c n : Nat} {nv nv' : Value} {ns ms : List Nd} {e : ET} (hK : Keep (· = R) w w1) (h : Got F w1 w2 R TB s nest1 i1 nv ns e j n ms nv') (hK3 : Keep (· = R) w2 w3) (hR3 : RAt w3 R s P nest a c) (hi : i ≤ i1) (hj : j ≤ P) (hP : P ≤ s.size + 1) :
    Lost F w w3 R TB s nest i nv ns a c P ms nv' :=
  ⟨hR3, h.tr.read h.rd hK3, by have := h.bd; omega, hP, by have := h.bd; omega, RS.step hK h.keep hK3, fun k hk => (h.own k hk).imp id (fun h => by have := hK.size; omega)⟩
theorem Lost.up {w w1 w2 w3 : World} {R TB : Nat} {s : ByteArray} {nest nest1 i i1 P a c : Nat} {nv nv' : Value} {ns ms : List Nd} (hK : Keep (· = R) w w1) (h : Lost F w1 w2 R TB s nest1 i1 nv ns a c P ms nv') (hK3 : Keep (· = R) w2 w3) (hR3 : RAt w3 R s P nest a c) (hi : i ≤ i1) :
    Lost F w w3 R TB s nest i nv ns a c P ms nv' :=
  ⟨hR3, h.tr.read h.rd hK3, by have := h.lo; omega, h.hi, by have := h.bd; omega, RS.step hK h.keep hK3, fun k hk => (h.own k hk).imp id (fun h => by have := hK.size; omega)⟩
def starsOf (s : ByteArray) : Ex.R ET → Ex.R ET
  | .ok e j => .ok (stars s (s.size - blanksEnd s j + 1) e (blanksEnd s j)).1 (stars s (s.size - blanksEnd s j + 1) e (blanksEnd s j)).2
  | .bad a c => .bad a c
theorem lev3 {s : ByteArray} {f i nest : Nat} {r : Ex.R ET} (h : lev s (f + 1) 3 i nest = some r) : ∃ ra, atom s f i nest = some ra ∧ r = starsOf s ra := by
  rw [lev, if_pos rfl] at h
  cases ha : atom s f i nest with
  | none => rw [ha] at h; cases h
  | some ra =>
    rw [ha] at h
    cases ra with
    | ok e j => simp only [Option.some.injEq] at h; exact ⟨_, rfl, h.symm⟩
    | bad a c => simp only [Option.some.injEq] at h; exact ⟨_, rfl, h.symm⟩

set_option maxRecDepth 100000 in
set_option maxHeartbeats 2000000 in
theorem refitem_any (s : ByteArray) (hs : s.size ≤ 256) (f : Nat) (IH : ∀ g, g + 1 ≤ f → RLevOK s g) (R TB i nest : Nat) (r : Ex.R ET) (nv : Value) (ns : List Nd) (w : World) (hF : ∀ k, F k → k < w.heap.size) (hR : RAt w R s i nest 0 0) (hT : TAt F w TB nv ns) (hi : i ≤ s.size) (hnest : nest ≤ 16) (hn : ns.length ≤ 2 * i) (hr : lev s (f + 1) 3 i nest = some r) :
    Calls Try.prog 120 #[.pointer (some ⟨R, 0, none⟩), .pointer (some ⟨TB, 0, none⟩)] w fun e w' => LPost F w R TB s nest i nv ns r e w' := by
  obtain ⟨ra, ha, hra⟩ := lev3 hr
  have Hra := hid hra
  have Ha := hid ha
  clear hr hra ha
  go_enter Try.func120, Try.ntmps120
  go_wp2_with fail
  refine (refc_any R s i nest 0 0 w hR (by omega)).mono ?_
  rintro e w0 ⟨rfl, n0, rfl⟩
  have hK0 := (Keep.refl (· = R) w).drewN n0
  have hR0 : RAt (w.drewN n0) R s i nest 0 0 := Blk.drewN hR n0
  have hT0 := hT.read hR hK0
  generalize w.drewN n0 = w0 at *
  have c1 := hR0.cellAt (i := 1) rfl
  have f1 := hR0.frozen 1
  have c2 := hR0.cellAt (i := 2) rfl
  have f2 := hR0.frozen 2
  go_upto_block 0 with fail
  go_cut [5] (fun v wx => LPost F w R TB s nest i nv ns ra (.returned v) wx)
  case first =>
    obtain ⟨f, rfl⟩ : ∃ g, f = g + 1 := by
      cases f with
      | zero => have := Ha.out; rw [atom] at this; cases this
      | succ g => exact ⟨g, rfl⟩
    have ha := Ha.out
    by_cases h64 : here s i = 64
    · have hlt : i < s.size := here_lt (by omega)
      have hRa := hR0.set 1 (.int .i64 ((i + 1 : Nat) : Int))
      have hKa := hK0.put 1 (.int .i64 ((i + 1 : Nat) : Int))
      have hTa := hT0.read hR0 ((Keep.refl (· = R) w0).put 1 (.int .i64 ((i + 1 : Nat) : Int)))
      have t1 : (((here s i : Nat) : Int) == 64) = true := by rw [h64]; rfl
      cases hw : word s (i + 1) with
      | ok wd j =>
        obtain ⟨hwo1, hwo2, -⟩ := word_ok hw (by omega)
        have Hw := hid (show ra = .ok (.node 2 wd []) j by rw [atom, if_pos h64, hw] at ha; simpa using ha.symm)
        have hcl := refword_any R s (i + 1) nest _ hRa (by omega) (by omega)
        rw [hw] at hcl
        clear ha hw h64
        go_wp2_with fail
        refine hcl.mono ?_
        rintro e w1 ⟨rfl, hR1, hKb⟩
        have hK1 := hKa.trans' hKb
        have hT1 := hTa.read hRa hKb
        clear hcl hRa hKa hTa hKb
        go_wp2_with fail
        refine (add_any TB nv ns ⟨2, wd, []⟩ none 0 0 _ hT1 (by omega) (Rd.nil _ _ _)).mono ?_
        rintro e w2 ⟨nv2, rfl, hT2, hK2, hb2⟩
        have HG := hid (Got.leaf (i := i) hK1 hR1 hT1 hT2 hK2 hb2 (by omega))
        clear hT2 hK2 hb2 hR1 hT1 hK1
        go_wp2_with fail
        go_meet
        case rel =>
          rw [Hw.out]
          exact ⟨ns.length, _, _, rfl, HG.out⟩
      | bad a c =>
        have hwb : a = (i + 1) ∧ c = 3 := by unfold word at hw; split at hw; (simp only [Ex.R.bad.injEq] at hw; exact ⟨hw.1.symm, hw.2.symm⟩); cases hw
        have hw : word s (i + 1) = .bad (i + 1) 3 := by rw [hw, hwb.1, hwb.2]
        clear hwb
        have Hw := hid (show ra = .bad (i + 1) 3 by rw [atom, if_pos h64, hw] at ha; simpa using ha.symm)
        have hcl := refword_any R s (i + 1) nest _ hRa (by omega) (by omega)
        rw [hw] at hcl
        clear ha hw h64
        go_wp2_with fail
        refine hcl.mono ?_
        rintro e w1 ⟨rfl, hR1, hKb⟩
        have hR1 : RAt w1 R s (i + 1) nest (i + 1) 3 := hR1
        have hK1 := hKa.trans' hKb
        have hT1 := hTa.read hRa hKb
        clear hcl hRa hKa hTa hKb
        go_wp2_with fail
        refine (add_any TB nv ns ⟨2, ⟨#[]⟩, []⟩ none 0 0 _ hT1 (by omega) (Rd.nil _ _ _)).mono ?_
        rintro e w2 ⟨nv2, rfl, hT2, hK2, hb2⟩
        have HG := hid (Lost.leaf (i := i) (P := (i + 1)) hK1 hR1 hT1 hT2 hK2 hb2 (by omega) (by omega))
        clear hT2 hK2 hb2 hR1 hT1 hK1
        go_wp2_with fail
        go_meet
        case rel =>
          rw [Hw.out]
          exact ⟨_, _, _, _, rfl, HG.out⟩
    · by_cases h35 : here s i = 35
      · have t0 : (((here s i : Nat) : Int) == 64) = false := by simp; omega
        have t1 : (((here s i : Nat) : Int) == 35) = true := by rw [h35]; rfl
        have hRa := hR0
        have hKa := hK0
        have hTa := hT0
        have hcl := text_any R s i nest _ hRa (by omega) (by omega) ⟨#[35, 116, 101, 120, 116]⟩ (by decide) (by decide)
        rw [show (({ data := #[35, 116, 101, 120, 116] } : ByteArray).data.toList.map (·.toNat)) = text5 from rfl] at hcl
        cases hw : exact text5 s i with
        | ok u j =>
          obtain ⟨hwo1, hwo2⟩ := exact_ok (by decide) hw hi
          have hwo3 : i < j := by rw [hwo1]; show i < i + 5; omega
          have Hw := hid (show ra = .ok (.node 3 ByteArray.empty []) j by rw [atom, if_neg h64, if_pos h35, hw] at ha; simpa using ha.symm)
          rw [hw] at hcl
          clear ha hw h64 h35 hwo1
          go_wp2_with fail
          refine hcl.mono ?_
          rintro e w1 ⟨rfl, hR1, hKb⟩
          have hK1 := hKa.trans' hKb
          have hT1 := hTa.read hRa hKb
          clear hcl hRa hKa hTa hKb
          go_wp2_with fail
          refine (add_any TB nv ns ⟨3, ByteArray.empty, []⟩ none 0 0 _ hT1 (by omega) (Rd.nil _ _ _)).mono ?_
          rintro e w2 ⟨nv2, rfl, hT2, hK2, hb2⟩
          have HG := hid (Got.leaf (i := i) hK1 hR1 hT1 hT2 hK2 hb2 (by omega))
          clear hT2 hK2 hb2 hR1 hT1 hK1
          go_wp2_with fail
          go_meet
          case rel =>
            rw [Hw.out]
            exact ⟨ns.length, _, _, rfl, HG.out⟩
        | bad a c =>
          obtain ⟨hwo1, hwo2, hwo3⟩ := exact_at (by decide) hw hi
          have Hw := hid (show ra = .bad a c by rw [atom, if_neg h64, if_pos h35, hw] at ha; simpa using ha.symm)
          rw [hw] at hcl
          clear ha hw h64 h35
          go_wp2_with fail
          refine hcl.mono ?_
          rintro e w1 ⟨rfl, hR1, hKb⟩
          have hR1 : RAt w1 R s (a + 1) nest a c := hR1
          have hK1 := hKa.trans' hKb
          have hT1 := hTa.read hRa hKb
          clear hcl hRa hKa hTa hKb
          go_wp2_with fail
          refine (add_any TB nv ns ⟨3, ByteArray.empty, []⟩ none 0 0 _ hT1 (by omega) (Rd.nil _ _ _)).mono ?_
          rintro e w2 ⟨nv2, rfl, hT2, hK2, hb2⟩
          have HG := hid (Lost.leaf (i := i) (P := (a + 1)) hK1 hR1 hT1 hT2 hK2 hb2 (by omega) (by omega))
          clear hT2 hK2 hb2 hR1 hT1 hK1
          go_wp2_with fail
          go_meet
          case rel =>
            rw [Hw.out]
            exact ⟨_, _, _, _, rfl, HG.out⟩
      · by_cases h40 : here s i = 40
        · have t0 : (((here s i : Nat) : Int) == 64) = false := by simp; omega
          have t1 : (((here s i : Nat) : Int) == 35) = false := by simp; omega
          have t2 : (((here s i : Nat) : Int) == 40) = true := by rw [h40]; rfl
          have hlt : i < s.size := here_lt (by omega)
          by_cases h16 : nest = 16
          · have t3 : (((nest : Nat) : Int) == 16) = true := by rw [h16]; rfl
            have Hw := hid (show ra = .bad i 5 by rw [atom, if_neg h64, if_neg h35, if_pos h40, if_pos h16] at ha; simpa using ha.symm)
            clear ha h64 h35 h40 h16
            go_wp2_with fail
            refine (fail_any R s i nest i 5 _ hR0).mono ?_
            rintro e w1 ⟨rfl, hR1, hKb⟩
            have HL := hid (show Lost F w w1 R TB s nest i nv ns i 5 i [] nv from ⟨hR1, by rw [List.append_nil]; exact hT0.read hR0 hKb, Nat.le_refl _, by omega, by simp, (hK0.trans' hKb).mono (fun k _ h => .inl h), fun k h => .inl h⟩)
            clear hR1 hKb
            go_wp2_with fail
            go_ret
            rw [Hra.out, Hw.out]
            exact ⟨-1, i, [], nv, rfl, HL.out⟩
          · have t3 : (((nest : Nat) : Int) == 16) = false := by simp; omega
            have hRa := hR0.set 1 (.int .i64 ((i + 1 : Nat) : Int))
            have hKa := hK0.put 1 (.int .i64 ((i + 1 : Nat) : Int))
            have hTa := hT0.read hR0 ((Keep.refl (· = R) w0).put 1 (.int .i64 ((i + 1 : Nat) : Int)))
            have hge := blanksEnd_ge s (i + 1)
            have hle := blanksEnd_le s (i + 1) (by omega)
            have hat := ha
            rw [atom, if_neg h64, if_neg h35, if_pos h40, if_neg h16] at hat
            have hn16 : nest + 1 ≤ 16 := by omega
            clear ha h64 h35 h40 h16
            go_wp2_with fail
            refine (refblanks_any R s (i + 1) nest 0 0 _ hRa (by omega)).mono ?_
            rintro e wa ⟨rfl, hRb, hKb⟩
            have hKc := hKa.trans' hKb
            have hTc := hTa.read hRa hKb
            clear hRa hTa hKa hKb
            generalize blanksEnd s (i + 1) = q at *
            go_wp2_with fail
            refine (refc_any R s q nest 0 0 wa hRb (by omega)).mono ?_
            rintro e wb ⟨rfl, nb, rfl⟩
            have hRd : RAt (wa.drewN nb) R s q nest 0 0 := Blk.drewN hRb nb
            have hKd := hKc.drewN nb
            have hTd := hTc.read hRb ((Keep.refl (· = R) wa).drewN nb)
            clear hRb hKc hTc
            generalize wa.drewN nb = W at *
            have d1 := hRd.cellAt (i := 1) rfl
            have e1 := hRd.frozen 1
            have d2 := hRd.cellAt (i := 2) rfl
            have e2 := hRd.frozen 2
            by_cases hq : here s q = 41
            · have t4 : (((here s q : Nat) : Int) == 41) = true := by rw [hq]; rfl
              have hqlt : q < s.size := here_lt (by omega)
              rw [if_pos hq] at hat
              have Hw := hid (show ra = .ok (.node 0 ByteArray.empty []) (q + 1) by simpa using hat.symm)
              have hR1 := hRd.set 1 (.int .i64 ((q + 1 : Nat) : Int))
              have hK1 := hKd.put 1 (.int .i64 ((q + 1 : Nat) : Int))
              have hT1 := hTd.read hRd ((Keep.refl (· = R) W).put 1 (.int .i64 ((q + 1 : Nat) : Int)))
              clear hat hq hRd hKd hTd
              go_wp2_with fail
              refine (add_any TB nv ns ⟨0, ByteArray.empty, []⟩ none 0 0 _ hT1 (by omega) (Rd.nil _ _ _)).mono ?_
              rintro e w2 ⟨nv2, rfl, hT2, hK2, hb2⟩
              have HG := hid (Got.leaf (i := i) hK1 hR1 hT1 hT2 hK2 hb2 (by omega))
              clear hT2 hK2 hb2 hR1 hT1 hK1
              go_wp2_with fail
              go_meet
              case rel =>
                rw [Hw.out]
                exact ⟨ns.length, _, _, rfl, HG.out⟩
            · have t4 : (((here s q : Nat) : Int) == 41) = false := by simp; omega
              rw [if_neg hq] at hat
              have hRe := hRd.set 2 (.int .i64 ((nest + 1 : Nat) : Int))
              have hKe := hKd.put 2 (.int .i64 ((nest + 1 : Nat) : Int))
              have hTe := hTd.read hRd ((Keep.refl (· = R) W).put 2 (.int .i64 ((nest + 1 : Nat) : Int)))
              clear hq hRd hKd hTd
              cases hl : lev s f 0 q (nest + 1) with
              | none => rw [hl] at hat; cases hat
              | some r1 =>
                have hcl := IH f (Nat.le_refl _) F 0 (by decide) R TB q (nest + 1) r1 nv ns _ (fun k hk => by have := hF k hk; have := hKe.size; omega) hRe hTe hle hn16 (by omega) hl
                rw [hl] at hat
                cases r1 with
                | bad a c =>
                  have Hw := hid (show ra = .bad a c by simpa using hat.symm)
                  have hc0 : c ≠ 0 := by have := (lev_bad s f).1 _ _ _ _ _ hl; omega
                  clear hat hl
                  go_wp2_with fail
                  refine hcl.mono ?_
                  rintro e w2 ⟨v, P, ms, nv2, rfl, hL⟩
                  have x2 := hL.rd.cellAt (i := 2) rfl
                  have y2 := hL.rd.frozen 2
                  have hR3 := hL.rd.set 2 (.int .i64 ((nest : Nat) : Int))
                  have HL := hid (Lost.up (i := i) hKe hL ((Keep.refl (· = R) w2).put 2 (.int .i64 ((nest : Nat) : Int))) hR3 (by omega))
                  clear hcl hL hKe hRe hTe
                  go_wp2_with fail
                  refine (text_skip R s P nest a c hc0 _ hR3 _ (by decide)).mono ?_
                  rintro e w4 ⟨rfl, rfl⟩
                  go_wp2_with fail
                  go_meet
                  case rel =>
                    rw [Hw.out]
                    exact ⟨_, _, _, _, rfl, HL.out⟩
                | ok e1 j1 =>
                  have hfw := (lev_forward s f).1 _ _ _ _ _ hle hl
                  clear hl
                  go_wp2_with fail
                  refine hcl.mono ?_
                  rintro e w2 ⟨n, ms, nv2, rfl, hG⟩
                  have x2 := hG.rd.cellAt (i := 2) rfl
                  have y2 := hG.rd.frozen 2
                  have hR3 := hG.rd.set 2 (.int .i64 ((nest : Nat) : Int))
                  have hK3 := (Keep.refl (· = R) w2).put 2 (.int .i64 ((nest : Nat) : Int))
                  have htx := text_any R s j1 nest _ hR3 (by omega) (by omega) ⟨#[41]⟩ (by decide) (by decide)
                  clear hcl
                  by_cases h41 : here s j1 = 41
                  · have hlt1 := here_lt (s := s) (i := j1) (by omega)
                    rw [show exact (({ data := #[41] } : ByteArray).data.toList.map (·.toNat)) s j1 = .ok () (j1 + 1) by show exact [41] s j1 = _; rw [exact, if_pos h41, exact]] at htx
                    simp only [if_pos h41] at hat
                    have Hw := hid (show ra = .ok e1 (j1 + 1) by simpa using hat.symm)
                    clear hat h41
                    go_wp2_with fail
                    refine htx.mono ?_
                    rintro e w4 ⟨rfl, hR4, hK4⟩
                    have HG := hid (Got.up (i := i) hKe hG (hK3.trans' hK4) hR4 (by omega) (by omega))
                    clear hG hKe hK3 hK4 hR4 hR3 hRe hTe htx
                    go_wp2_with fail
                    go_meet
                    case rel =>
                      rw [Hw.out]
                      exact ⟨_, _, _, rfl, HG.out⟩
                  · rw [show exact (({ data := #[41] } : ByteArray).data.toList.map (·.toNat)) s j1 = .bad j1 3 by show exact [41] s j1 = _; rw [exact, if_neg h41]] at htx
                    simp only [if_neg h41] at hat
                    have Hw := hid (show ra = .bad j1 3 by simpa using hat.symm)
                    clear hat h41
                    go_wp2_with fail
                    refine htx.mono ?_
                    rintro e w4 ⟨rfl, hR4, hK4⟩
                    have hR4 : RAt w4 R s (j1 + 1) nest j1 3 := hR4
                    have HL := hid (Got.fell (i := i) hKe hG (hK3.trans' hK4) hR4 (by omega) (by omega) (by omega))
                    clear hG hKe hK3 hK4 hR4 hR3 hRe hTe htx
                    go_wp2_with fail
                    go_meet
                    case rel =>
                      rw [Hw.out]
                      exact ⟨_, _, _, _, rfl, HL.out⟩
        · have t1 : (((here s i : Nat) : Int) == 64) = false := by simp; omega
          have t2 : (((here s i : Nat) : Int) == 35) = false := by simp; omega
          have t3 : (((here s i : Nat) : Int) == 40) = false := by simp; omega
          have hRa := hR0
          have hKa := hK0
          have hTa := hT0
          cases hw : word s i with
          | ok wd j =>
            obtain ⟨hwo1, hwo2, -⟩ := word_ok hw (by omega)
            have Hw := hid (show ra = .ok (.node 1 wd []) j by rw [atom, if_neg h64, if_neg h35, if_neg h40, hw] at ha; simpa using ha.symm)
            have hcl := refword_any R s i nest _ hRa (by omega) (by omega)
            rw [hw] at hcl
            clear ha hw h64 h35 h40
            go_wp2_with fail
            refine hcl.mono ?_
            rintro e w1 ⟨rfl, hR1, hKb⟩
            have hK1 := hKa.trans' hKb
            have hT1 := hTa.read hRa hKb
            clear hcl hRa hKa hTa hKb
            go_wp2_with fail
            refine (add_any TB nv ns ⟨1, wd, []⟩ none 0 0 _ hT1 (by omega) (Rd.nil _ _ _)).mono ?_
            rintro e w2 ⟨nv2, rfl, hT2, hK2, hb2⟩
            have HG := hid (Got.leaf (i := i) hK1 hR1 hT1 hT2 hK2 hb2 (by omega))
            clear hT2 hK2 hb2 hR1 hT1 hK1
            go_wp2_with fail
            go_meet
            case rel =>
              rw [Hw.out]
              exact ⟨ns.length, _, _, rfl, HG.out⟩
          | bad a c =>
            have hwb : a = i ∧ c = 3 := by unfold word at hw; split at hw; (simp only [Ex.R.bad.injEq] at hw; exact ⟨hw.1.symm, hw.2.symm⟩); cases hw
            have hw : word s i = .bad i 3 := by rw [hw, hwb.1, hwb.2]
            clear hwb
            have Hw := hid (show ra = .bad i 3 by rw [atom, if_neg h64, if_neg h35, if_neg h40, hw] at ha; simpa using ha.symm)
            have hcl := refword_any R s i nest _ hRa (by omega) (by omega)
            rw [hw] at hcl
            clear ha hw h64 h35 h40
            go_wp2_with fail
            refine hcl.mono ?_
            rintro e w1 ⟨rfl, hR1, hKb⟩
            have hR1 : RAt w1 R s i nest i 3 := hR1
            have hK1 := hKa.trans' hKb
            have hT1 := hTa.read hRa hKb
            clear hcl hRa hKa hTa hKb
            go_wp2_with fail
            refine (add_any TB nv ns ⟨1, ⟨#[]⟩, []⟩ none 0 0 _ hT1 (by omega) (Rd.nil _ _ _)).mono ?_
            rintro e w2 ⟨nv2, rfl, hT2, hK2, hb2⟩
            have HG := hid (Lost.leaf (i := i) (P := i) hK1 hR1 hT1 hT2 hK2 hb2 (by omega) (by omega))
            clear hT2 hK2 hb2 hR1 hT1 hK1
            go_wp2_with fail
            go_meet
            case rel =>
              rw [Hw.out]
              exact ⟨_, _, _, _, rfl, HG.out⟩
  case rest =>
    clear c1 f1 c2 f2 hR0 hT0 hK0
    have Hcut := hid hcut
    clear hcut
    cases ra with
    | bad a c =>
      obtain ⟨v, P, ms, nv1, hv, hL⟩ := Hcut.out
      injection hv with hv
      subst hv
      clear Hcut
      have hc0 : c ≠ 0 := by have := (lev_bad s f).2.2 _ _ _ _ Ha.out; omega
      have hcf : ((c : Int) == 0) = false := by simpa using (by omega : ¬ (c : Int) = 0)
      have hrd := hL.rd
      go_wp2_with fail
      refine (refblanks_any R s P nest a c wc hrd (by omega)).mono ?_
      rintro e w1 ⟨rfl, hR1, hK1⟩
      have hL1 := hL.go hK1 hR1 (blanksEnd_ge s P) (blanks_hi hL.hi)
      have c4 := hR1.cellAt (i := 4) rfl
      clear hrd hL
      have HL := hid hL1
      clear hL1
      go_wp2_with fail
      go_loopg [5] 0 (fun g x wr => x = .int .i64 v ∧ wr = w1)
      case atStart => exact ⟨rfl, rfl⟩
      case round =>
        obtain ⟨rfl, rfl⟩ := hrel
        go_wp2_with fail
        go_ret
        rw [Hra.out]
        exact ⟨v, _, ms, nv1, rfl, HL.out⟩
    | ok e0 j0 =>
      obtain ⟨n, ms, nv1, hv, hG⟩ := Hcut.out
      injection hv with hv
      subst hv
      clear Hcut
      have hfw := (lev_forward s f).2.2 _ _ _ _ hi Ha.out
      have hj := blanksEnd_le s j0 hfw.2.1
      have hrd := hG.rd
      go_wp2_with fail
      refine (refblanks_any R s j0 nest 0 0 wc hrd (by omega)).mono ?_
      rintro e w1 ⟨rfl, hR1, hK1⟩
      have HG := hid (hG.go hK1 hR1 (blanksEnd_ge s j0))
      clear hrd hG hK1 hR1
      go_wp2_with fail
      go_loopg [5] (s.size + 1 - blanksEnd s j0) (fun g v wr => ∃ e b n ms nv1 fu, v = .int .i64 ((n : Nat) : Int) ∧ Got F w wr R TB s nest i nv ns e b n ms nv1 ∧ b ≤ s.size ∧ g = s.size + 1 - b ∧ s.size - b < fu ∧ stars s (s.size - blanksEnd s j0 + 1) e0 (blanksEnd s j0) = stars s fu e b)
      case atStart => exact ⟨e0, blanksEnd s j0, n, ms, nv1, s.size - blanksEnd s j0 + 1, rfl, HG.out, hj, rfl, by omega, rfl⟩
      case round =>
        clear HG
        obtain ⟨e, b, n, ms, nv1, fu, rfl, hG, hb, hg, hfu, hs⟩ := hrel
        have Hg := hid hg
        have Hs := hid hs
        clear hg hs
        have c4 := hG.rd.cellAt (i := 4) rfl
        by_cases h42 : here s b = 42
        · obtain ⟨fu', hfu', hst⟩ := stars_step (e := e) (b := b) hfu (show star? (here s b) = 7 by rw [h42]; rfl) (by decide)
          have Hst := hid (Hs.out.trans hst)
          have hlt : b < s.size := here_lt (by omega)
          clear hst Hs
          go_wp2_with fail
          refine (refc_any R s b nest 0 0 wr hG.rd (by omega)).mono ?_
          rintro e9 w2 ⟨rfl, n2, rfl⟩
          rw [h42]
          have hG2 := hG.go ((Keep.refl (· = R) wr).drewN n2) (Blk.drewN hG.rd n2) (Nat.le_refl b)
          generalize wr.drewN n2 = W at *
          clear hG c4
          have hT3 := hG2.tr.alloc (.cells #[.int .i64 (n : Int)] 3)
          have hrd3 := rd_one (F := F) W (fun k hk => by have := hF k hk; have := hG2.keep.size; omega) n
          have hlen : (ns ++ ms).length ≤ 1000000 := by have := hG2.bd; rw [List.length_append]; omega
          have hz3 : (W.alloc (.cells #[.int .i64 (n : Int)] 3)).heap.size = W.heap.size + 1 := by simp
          go_wp2_with fail
          refine (add_any TB nv1 (ns ++ ms) ⟨7, ByteArray.empty, [n]⟩ _ _ _ _ hT3 hlen hrd3).mono ?_
          rintro e9 w3 ⟨nv2, rfl, hT4, hK4, hb4⟩
          have hK5 := ((Keep.refl (TS TB nv1) W).alloc (.cells #[.int .i64 (n : Int)] 3)).trans' hK4
          have hR5 := hG2.rd.added hG2.tr hK5
          have hb5 : ∀ k, nv2.ownBlock = some k → nv1.ownBlock = some k ∨ W.heap.size ≤ k := fun k hk => (hb4 k hk).imp id (fun h => by omega)
          have d1 := hR5.cellAt (i := 1) rfl
          have g1 := hR5.frozen 1
          have hR6 := hR5.set 1 (.int .i64 ((b + 1 : Nat) : Int))
          have hK6 := (Keep.refl (· = R) w3).put 1 (.int .i64 ((b + 1 : Nat) : Int))
          clear hT3 hrd3 hz3 hlen hK4 hb4
          go_wp2_with fail
          refine (refblanks_any R s (b + 1) nest 0 0 _ hR6 (by omega)).mono ?_
          rintro e9 w4 ⟨rfl, hR7, hK7⟩
          have hbe := blanksEnd_ge s (b + 1)
          have hbl := blanksEnd_le s (b + 1) (by omega)
          have HG2 := hid (hG2.star hT4 hK5 hb5 (hK6.trans' hK7) hR7 (by omega))
          clear hG2 hT4 hK5 hb5 hK6 hK7 hR6 hR7 hR5 d1 g1
          go_wp2_with fail
          go_roundg (s.size + 1 - blanksEnd s (b + 1))
          case measure => have := Hg.out; omega
          case rel => exact ⟨_, blanksEnd s (b + 1), (ns ++ ms).length, _, _, fu', by simp, HG2.out, hbl, rfl, by omega, Hst.out⟩
        by_cases h43 : here s b = 43
        · obtain ⟨fu', hfu', hst⟩ := stars_step (e := e) (b := b) hfu (show star? (here s b) = 8 by rw [h43]; rfl) (by decide)
          have Hst := hid (Hs.out.trans hst)
          have hlt : b < s.size := here_lt (by omega)
          clear hst Hs
          go_wp2_with fail
          refine (refc_any R s b nest 0 0 wr hG.rd (by omega)).mono ?_
          rintro e9 w2 ⟨rfl, n2, rfl⟩
          rw [h43]
          have hG2 := hG.go ((Keep.refl (· = R) wr).drewN n2) (Blk.drewN hG.rd n2) (Nat.le_refl b)
          generalize wr.drewN n2 = W at *
          clear hG c4
          have hT3 := hG2.tr.alloc (.cells #[.int .i64 (n : Int)] 3)
          have hrd3 := rd_one (F := F) W (fun k hk => by have := hF k hk; have := hG2.keep.size; omega) n
          have hlen : (ns ++ ms).length ≤ 1000000 := by have := hG2.bd; rw [List.length_append]; omega
          have hz3 : (W.alloc (.cells #[.int .i64 (n : Int)] 3)).heap.size = W.heap.size + 1 := by simp
          go_wp2_with fail
          refine (add_any TB nv1 (ns ++ ms) ⟨8, ByteArray.empty, [n]⟩ _ _ _ _ hT3 hlen hrd3).mono ?_
          rintro e9 w3 ⟨nv2, rfl, hT4, hK4, hb4⟩
          have hK5 := ((Keep.refl (TS TB nv1) W).alloc (.cells #[.int .i64 (n : Int)] 3)).trans' hK4
          have hR5 := hG2.rd.added hG2.tr hK5
          have hb5 : ∀ k, nv2.ownBlock = some k → nv1.ownBlock = some k ∨ W.heap.size ≤ k := fun k hk => (hb4 k hk).imp id (fun h => by omega)
          have d1 := hR5.cellAt (i := 1) rfl
          have g1 := hR5.frozen 1
          have hR6 := hR5.set 1 (.int .i64 ((b + 1 : Nat) : Int))
          have hK6 := (Keep.refl (· = R) w3).put 1 (.int .i64 ((b + 1 : Nat) : Int))
          clear hT3 hrd3 hz3 hlen hK4 hb4
          go_wp2_with fail
          refine (refblanks_any R s (b + 1) nest 0 0 _ hR6 (by omega)).mono ?_
          rintro e9 w4 ⟨rfl, hR7, hK7⟩
          have hbe := blanksEnd_ge s (b + 1)
          have hbl := blanksEnd_le s (b + 1) (by omega)
          have HG2 := hid (hG2.star hT4 hK5 hb5 (hK6.trans' hK7) hR7 (by omega))
          clear hG2 hT4 hK5 hb5 hK6 hK7 hR6 hR7 hR5 d1 g1
          go_wp2_with fail
          go_roundg (s.size + 1 - blanksEnd s (b + 1))
          case measure => have := Hg.out; omega
          case rel => exact ⟨_, blanksEnd s (b + 1), (ns ++ ms).length, _, _, fu', by simp, HG2.out, hbl, rfl, by omega, Hst.out⟩
        by_cases h63 : here s b = 63
        · obtain ⟨fu', hfu', hst⟩ := stars_step (e := e) (b := b) hfu (show star? (here s b) = 9 by rw [h63]; rfl) (by decide)
          have Hst := hid (Hs.out.trans hst)
          have hlt : b < s.size := here_lt (by omega)
          clear hst Hs
          go_wp2_with fail
          refine (refc_any R s b nest 0 0 wr hG.rd (by omega)).mono ?_
          rintro e9 w2 ⟨rfl, n2, rfl⟩
          rw [h63]
          have hG2 := hG.go ((Keep.refl (· = R) wr).drewN n2) (Blk.drewN hG.rd n2) (Nat.le_refl b)
          generalize wr.drewN n2 = W at *
          clear hG c4
          have hT3 := hG2.tr.alloc (.cells #[.int .i64 (n : Int)] 3)
          have hrd3 := rd_one (F := F) W (fun k hk => by have := hF k hk; have := hG2.keep.size; omega) n
          have hlen : (ns ++ ms).length ≤ 1000000 := by have := hG2.bd; rw [List.length_append]; omega
          have hz3 : (W.alloc (.cells #[.int .i64 (n : Int)] 3)).heap.size = W.heap.size + 1 := by simp
          go_wp2_with fail
          refine (add_any TB nv1 (ns ++ ms) ⟨9, ByteArray.empty, [n]⟩ _ _ _ _ hT3 hlen hrd3).mono ?_
          rintro e9 w3 ⟨nv2, rfl, hT4, hK4, hb4⟩
          have hK5 := ((Keep.refl (TS TB nv1) W).alloc (.cells #[.int .i64 (n : Int)] 3)).trans' hK4
          have hR5 := hG2.rd.added hG2.tr hK5
          have hb5 : ∀ k, nv2.ownBlock = some k → nv1.ownBlock = some k ∨ W.heap.size ≤ k := fun k hk => (hb4 k hk).imp id (fun h => by omega)
          have d1 := hR5.cellAt (i := 1) rfl
          have g1 := hR5.frozen 1
          have hR6 := hR5.set 1 (.int .i64 ((b + 1 : Nat) : Int))
          have hK6 := (Keep.refl (· = R) w3).put 1 (.int .i64 ((b + 1 : Nat) : Int))
          clear hT3 hrd3 hz3 hlen hK4 hb4
          go_wp2_with fail
          refine (refblanks_any R s (b + 1) nest 0 0 _ hR6 (by omega)).mono ?_
          rintro e9 w4 ⟨rfl, hR7, hK7⟩
          have hbe := blanksEnd_ge s (b + 1)
          have hbl := blanksEnd_le s (b + 1) (by omega)
          have HG2 := hid (hG2.star hT4 hK5 hb5 (hK6.trans' hK7) hR7 (by omega))
          clear hG2 hT4 hK5 hb5 hK6 hK7 hR6 hR7 hR5 d1 g1
          go_wp2_with fail
          go_roundg (s.size + 1 - blanksEnd s (b + 1))
          case measure => have := Hg.out; omega
          case rel => exact ⟨_, blanksEnd s (b + 1), (ns ++ ms).length, _, _, fu', by simp, HG2.out, hbl, rfl, by omega, Hst.out⟩
        · have hst := stars_stop (fu := fu) (e := e) (show star? (here s b) = 0 by unfold star?; rw [if_neg h42, if_neg h43, if_neg h63])
          have Hst := hid (Hs.out.trans hst)
          have t1 : (((here s b : Nat) : Int) == 42) = false := by simp; omega
          have t2 : (((here s b : Nat) : Int) == 43) = false := by simp; omega
          have t3 : (((here s b : Nat) : Int) == 63) = false := by simp; omega
          clear hst Hs h42 h43 h63
          go_wp2_with fail
          refine (refc_any R s b nest 0 0 wr hG.rd (by omega)).mono ?_
          rintro e9 w2 ⟨rfl, n2, rfl⟩
          have HG2 := hid (hG.go ((Keep.refl (· = R) wr).drewN n2) (Blk.drewN hG.rd n2) (Nat.le_refl b))
          clear hG
          go_wp2_with fail
          go_ret
          rw [Hra.out]
          show LPost F w R TB s nest i nv ns (.ok _ _) _ _
          rw [Hst.out]
          exact ⟨n, ms, nv1, rfl, HG2.out⟩
end Ex
end Go.Proofs.Ytfgkcifkfokoiaa
