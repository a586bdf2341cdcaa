/- All levels of the reader of beadleref14 together; what its tree looks like to those who read it; the walk through the law's same. -/
import Derived.Test.YtfgkcifkfokoiaaFw6
import Derived.Test.YtfgkcifkfokoiaaExV3
set_option linter.unusedVariables false
set_option linter.unusedSimpArgs false
namespace Go.Proofs.Ytfgkcifkfokoiaa
open Go.RowKit
namespace Ex
variable {F : Nat → Prop}
theorem lev_over {s : ByteArray} {f k i nest : Nat} {r : Ex.R ET} (h : lev s f k i nest = some r) : ∃ g, f = g + 1 := by
  cases f with
  | zero => simp [lev] at h
  | succ g => exact ⟨g, rfl⟩
set_option maxRecDepth 100000 in
theorem reflevel3 (s : ByteArray) (hs : s.size ≤ 256) (f : Nat) (IH : ∀ g, g < f → RLevOK s g) (R TB i nest : Nat) (r : Ex.R ET) (nv : Value) (ns : List Nd) (w : World) (hF : ∀ k, F k → k < w.heap.size) (hR : RAt w R s i nest 0 0) (hT : TAt F w TB nv ns) (hi : i ≤ s.size) (hnest : nest ≤ 16) (hn : ns.length ≤ 2 * i) (hr : lev s (f + 1) 3 i nest = some r) :
    Calls Try.prog 76 #[.pointer (some ⟨R, 0, none⟩), .pointer (some ⟨TB, 0, none⟩), .int .i64 3] w fun e w' => LPost F w R TB s nest i nv ns r e w' := by
  have hcl := refitem_any s hs f (fun g hg => IH g (by omega)) R TB i nest r nv ns w hF hR hT hi hnest hn hr
  have c4 := hR.cellAt (i := 4) rfl
  have Hr := hid hr
  clear hr
  go_enter Try.func76, Try.ntmps76
  go_wp2_with fail
  refine hcl.mono ?_
  rintro e w1 h1
  clear hcl c4
  cases r with
  | ok t j =>
    obtain ⟨n, ms, nv2, rfl, hG⟩ := h1
    have HG := hid hG
    clear hG
    go_wp2_with fail
    go_ret
    exact ⟨n, ms, nv2, rfl, HG.out⟩
  | bad a c =>
    obtain ⟨v, P, ms, nv2, rfl, hG⟩ := h1
    have HG := hid hG
    clear hG
    go_wp2_with fail
    go_ret
    exact ⟨v, P, ms, nv2, rfl, HG.out⟩
theorem RLev_any (s : ByteArray) (hs : s.size ≤ 256) : ∀ f g, g < f → RLevOK s g
  | 0, g, h => by omega
  | f + 1, g, h => by
    have IH := RLev_any s hs f
    rcases (show g < f ∨ g = f from by omega) with h1 | rfl
    · exact IH g h1
    · intro F k hk R TB i nest r nv ns w hF hR hT hi hnest hn hr
      obtain ⟨g2, rfl⟩ := lev_over hr
      have IH2 : ∀ q, q < g2 → RLevOK s q := fun q hq => IH q (by omega)
      rcases (show k = 0 ∨ k = 1 ∨ k = 2 ∨ k = 3 from by omega) with rfl | rfl | rfl | rfl
      · exact reflevel0 s hs g2 IH2 R TB i nest r nv ns w hF hR hT hi hnest hn hr
      · exact reflevel1 s hs g2 IH2 R TB i nest r nv ns w hF hR hT hi hnest hn hr
      · exact reflevel2 s hs g2 IH2 R TB i nest r nv ns w hF hR hT hi hnest hn hr
      · exact reflevel3 s hs g2 IH2 R TB i nest r nv ns w hF hR hT hi hnest hn hr
/-- The tree as those who read it need it. -/
def TRd (w : World) (TB : Nat) (rt : Int) (ns : List Nd) : Prop := ∃ nv xs, Blk w TB 35 [nv, .int .i64 rt] ∧ Rd w (fun _ => True) nv 3 xs ∧ NdsAt (fun _ => False) w ns xs
theorem TRd.keep {w w' : World} {TB : Nat} {rt : Int} {ns : List Nd} {S : Nat → Prop} (h : TRd w TB rt ns) (hK : Keep S w w') (hS : ∀ k, ¬ S k) : TRd w' TB rt ns := by
  obtain ⟨nv, xs, h1, h2, h3⟩ := h
  exact ⟨nv, xs, h1.keep hK (hS _), h2.keep hK (fun k _ => hS k), h3.step hK (fun k _ => hS k)⟩
theorem TAt.trd {w : World} {TB : Nat} {nv : Value} {ns : List Nd} (h : TAt F w TB nv ns) (rt : Int) : TRd (w.setCell ⟨TB, 1, none⟩ (.int .i64 rt)) TB rt ns := by
  obtain ⟨h1, xs, h2, h3⟩ := h
  have hK := (Keep.refl (· = TB) w).put 1 (.int .i64 rt)
  have h2' := Own.keep h2 hK (fun k hk => Own.ne h2 h1 (by decide) k hk)
  exact ⟨nv, xs, h1.set 1 _, Own.rd h2' (fun _ _ => True.intro), h3.turn hK (fun k hk => hk.1.ne h1 (by decide)) (fun _ _ h => h)⟩
theorem NdsAt.nth {w : World} : ∀ {ns : List Nd} {xs : List Value}, NdsAt F w ns xs → ∀ (n : Nat) (d : Nd), ns[n]? = some d →
    ∃ kv, xs[n * 3]? = some (.int .i64 (d.kind : Int)) ∧ xs[n * 3 + 1]? = some (.string d.word) ∧ xs[n * 3 + 2]? = some kv ∧ Rd w (okI F w) kv 1 (ints d.kids)
  | [], xs, h, n, d, hd => by simp at hd
  | x :: ns, xs, h, n, d, hd => by
    obtain ⟨kv, r, rfl, h2, h3⟩ := h
    cases n with
    | zero =>
      simp at hd
      subst hd
      exact ⟨kv, rfl, rfl, rfl, h2⟩
    | succ n =>
      simp at hd
      obtain ⟨kv', g1, g2, g3, g4⟩ := NdsAt.nth h3 n d hd
      refine ⟨kv', ?_, ?_, ?_, g4⟩
      · rw [show (n + 1) * 3 = n * 3 + 3 from by omega]; simpa using g1
      · rw [show (n + 1) * 3 + 1 = (n * 3 + 1) + 3 from by omega]; simpa using g2
      · rw [show (n + 1) * 3 + 2 = (n * 3 + 2) + 3 from by omega]; simpa using g3
/-- A node of the tree, cell by cell. -/
theorem TRd.node {w : World} {TB : Nat} {rt : Int} {ns : List Nd} {d : Nd} {n : Nat} (h : TRd w TB rt ns) (hd : ns[n]? = some d) : ∃ b off c A2 c2,
    n < ns.length ∧ ns.length ≤ 9223372036854775807 ∧
    w.cell? ⟨TB, 0, none⟩ = some (.slice (some ⟨b, off, none⟩) ns.length c) ∧
    w.cell? ⟨b, off + n * 3, none⟩ = some (.int .i64 (d.kind : Int)) ∧ w.cell? ⟨b, off + n * 3 + 1, none⟩ = some (.string d.word) ∧ w.cell? ⟨b, off + n * 3 + 2, none⟩ = some (.slice A2 d.kids.length c2) ∧ d.kids.length ≤ c2 ∧ d.kids.length ≤ 9223372036854775807 ∧
    (0 < d.kids.length → ∃ b2 off2, A2 = some ⟨b2, off2, none⟩ ∧ ∀ (j m : Nat), d.kids[j]? = some m → w.cell? ⟨b2, off2 + j, none⟩ = some (.int .i64 (m : Int))) := by
  obtain ⟨nv, xs, h1, ⟨A, k, c, rfl, hl, hc, hm, hr⟩, h3⟩ := h
  obtain ⟨kv, g1, g2, g3, ⟨A2, k2, c2, rfl, hl2, hc2, hm2, hr2⟩⟩ := h3.nth n d hd
  have hlen := h3.length
  obtain rfl : k = ns.length := by omega
  have hn := (List.getElem?_eq_some_iff.1 hd).1
  obtain ⟨b, off, rfl, -, hcell⟩ := hr (by omega)
  obtain rfl : k2 = d.kids.length := by simpa [ints] using hl2.symm
  refine ⟨b, off, c, A2, c2, hn, hm, h1.cellAt (i := 0) rfl, hcell _ _ g1, hcell _ _ g2, hcell _ _ g3, hc2, hm2, fun h0 => ?_⟩
  obtain ⟨b2, off2, rfl, -, hcell2⟩ := hr2 h0
  exact ⟨b2, off2, rfl, fun j m hj => hcell2 j _ (by simp [ints, hj])⟩

/-- The law's same says yes where a tree and a node stand for the same. -/
def SameOK (e : ET) : Prop := ∀ (w : World) (ok : Nat → Prop) (v : Value) (TB : Nat) (rt : Int) (ns : List Nd) (n : Nat), ExAt w ok e v → TRd w TB rt ns → Rep ns e n →
  Calls Try.prog 16 #[v, .pointer (some ⟨TB, 0, none⟩), .int .i64 (n : Int)] w fun r w' => r = .returned (.bool true) ∧ Keep (fun _ => False) w w'
theorem RepL.nth {ns : List Nd} : ∀ {l : List ET} {ks : List Nat}, RepL ns l ks → ∀ (k : Nat) (e : ET), l[k]? = some e → ∃ m, ks[k]? = some m ∧ Rep ns e m
  | [], ks, h, k, e, he => by simp at he
  | x :: l, ks, h, k, e, he => by
    simp only [RepL] at h
    obtain ⟨n, r, rfl, h1, h2⟩ := h
    cases k with
    | zero => simp at he; subst he; exact ⟨n, rfl, h1⟩
    | succ k => simpa using RepL.nth h2 k e (by simpa using he)
set_option maxRecDepth 100000 in
set_option maxHeartbeats 1000000 in
theorem same_node (ke : Nat) (wde : ByteArray) (l : List ET) (IH : ∀ e, e ∈ l → SameOK e) : SameOK (.node ke wde l) := by
  intro w ok v TB rt ns n h hT hrep
  simp only [ExAt] at h
  obtain ⟨kv', cs, rfl, hr, hl⟩ := h
  obtain ⟨A, m, c, rfl, hlen, hnc, hm, hcells⟩ := id hr
  have hl3 := hl.length
  obtain rfl : m = l.length := by omega
  simp only [Rep] at hrep
  obtain ⟨ks, hnd, hks⟩ := hrep
  have hkl : ks.length = l.length := hks.length
  obtain ⟨b, off, c1, A2, c2, hnl, hnm, g0, g1, g2, g3, hk1, hk2, hkc⟩ := hT.node hnd
  simp only at g1 g2 g3 hk1 hk2 hkc
  rw [hkl] at g3 hk1 hk2 hkc
  have Hkl := hid hkl
  have e0 := fun o => cell_alloc g0 o
  have e1 := fun o => cell_alloc g1 o
  have e2 := fun o => cell_alloc g2 o
  have e3 := fun o => cell_alloc g3 o
  clear hlen hl3 hkl hnd
  go_enter Try.func16, Try.ntmps16
  go_wp2_with fail
  go_loopg [8] l.length (fun g i wr => ∃ k, k ≤ l.length ∧ g = l.length - k ∧ i = .int .i64 (k : Int) ∧ Keep (fun _ => False) w wr ∧ Blk wr w.heap.size 25 [.int .i64 (ke : Int), .string wde, .slice A l.length c] ∧ Blk wr (w.heap.size + 1) 140 [.int .i64 (ke : Int), .string wde, .slice A2 l.length c2])
  case atStart => exact ⟨0, Nat.zero_le _, rfl, rfl, ((Keep.refl _ w).alloc _).alloc _, Blk.alloc (Blk.new w _ [_, _, _]) _, newAt (by simp) _ [_, _, _]⟩
  case round =>
    clear e0 e1 e2 e3 g0 g1 g2 g3
    obtain ⟨k, hkn, hg, rfl, hK, hB1, hB2⟩ := hrel
    have Hg := hid hg
    clear hg
    have b1 := hB1.cellAt (i := 2) rfl
    have b2 := hB2.cellAt (i := 2) rfl
    by_cases hlt : k < l.length
    · obtain ⟨a0, a1, a2, q1, q2, q3, hE⟩ := hl.nth k l[k] (by simp [hlt])
      obtain ⟨m, hm1, hm2⟩ := hks.nth k l[k] (by simp [hlt])
      obtain ⟨wd1, A1, n1, c3, hv⟩ := hE.kind
      simp at hv
      obtain ⟨rfl, rfl, rfl⟩ := hv
      obtain ⟨B, off3, rfl, hok, hcell⟩ := hcells (by omega)
      obtain ⟨B4, off4, rfl, hcell4⟩ := hkc (by omega)
      have d0 := hK.cell (hcell _ _ q1) (fun h => h)
      have d1 := hK.cell (hcell _ _ q2) (fun h => h)
      have d2 := hK.cell (hcell _ _ q3) (fun h => h)
      have d3 := hK.cell (hcell4 _ _ hm1) (fun h => h)
      rw [← Nat.add_assoc] at d1 d2
      have hIH := fun (W : World) (hKs : Keep (fun _ => False) wr W) => IH _ (List.getElem_mem hlt) W ok _ TB rt ns m (ExAt.keep (hK.trans' hKs) (fun _ _ h => h) hE) (hT.keep (hK.trans' hKs) (fun _ h => h)) hm2
      have HIH := hid hIH
      clear hIH hm1 hm2 q1 q2 q3 hcell hcell4
      go_wp2_with fail
      go_region_held3 (fun w' => w'.cell? ⟨w.heap.size, 2, none⟩ = some (.slice (some ⟨B, off3, none⟩) l.length c) ∧ w'.cell? ⟨w.heap.size + 1, 2, none⟩ = some (.slice (some ⟨B4, off4, none⟩) l.length c2) ∧ w'.cell? ⟨B, off3 + k * 3, none⟩ = some (.int .i64 (kindE l[k] : Int)) ∧ w'.cell? ⟨B, off3 + k * 3 + 1, none⟩ = some (.string wd1) ∧ w'.cell? ⟨B, off3 + k * 3 + 2, none⟩ = some (.slice A1 n1 c3) ∧ w'.cell? ⟨B4, off4 + k, none⟩ = some (.int .i64 (m : Int))) (go_keep)
        (first | (go_at_call 16; refine (HIH.out _ ?_).mono ?_; (first | exact Keep.drew (Keep.refl _ _) | exact Keep.refl _ _ | exact Keep.drewN (Keep.refl _ _) _); rintro r w' ⟨rfl, hKs⟩; have f1 := hKs.cell b1 (fun h => h); have f2 := hKs.cell b2 (fun h => h); have f3 := hKs.cell d0 (fun h => h); have f4 := hKs.cell d1 (fun h => h); have f5 := hKs.cell d2 (fun h => h); have f6 := hKs.cell d3 (fun h => h)))
      all_goals (go_wp2_with fail)
      all_goals
        have hK2 : Keep (fun _ => False) wr w' := by first | exact hKs | exact ((Keep.refl _ wr).drew).trans' hKs | exact ((Keep.refl _ wr).drewN _).trans' hKs
        go_roundg (l.length - (k + 1))
        case measure => have := Hg.out; omega
        case rel => exact ⟨k + 1, by omega, rfl, rfl, hK.trans' hK2, hB1.keep hK2 (fun h => h), hB2.keep hK2 (fun h => h)⟩
    · have hke : k = l.length := by omega
      subst hke
      go_wp2_with fail
      go_ret
      exact ⟨rfl, hK⟩
mutual
theorem same_any : ∀ e : ET, SameOK e
  | .node k wd l => same_node k wd l (same_anyL l)
theorem same_anyL : ∀ (l : List ET) (e : ET), e ∈ l → SameOK e
  | x :: l, e, h => by
    rcases List.mem_cons.1 h with h | h
    · rw [h]; exact same_any x
    · exact same_anyL l e h
end
end Ex
end Go.Proofs.Ytfgkcifkfokoiaa
