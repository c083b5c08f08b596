/- The walks of layer 1: the document's eye: its end, its texts. -/
import Derived.Test.YtmmcmldcbdaooaaDoorInkE
namespace Go.Proofs.YtmmcmldcbdaooaaDoor
open Go.RowKit Go.Quad _root_.Quad.Ink

theorem rend_calls (w : World) (g A : Nat) (p : List UInt8) (bad : Bool) (h : REyeAt w g A p bad) :
    Calls Tryd.prog 88 #[.pointer (some ⟨g, 0, none⟩)] w fun e w' => e = .returned (.bool (!bad && decide (p.length = 0))) ∧ w = w' := by
  obtain ⟨a, cap, h⟩ := h
  have c0 : w.cell? ⟨g, 0, none⟩ = some (.slice a p.length cap) := by rw [h.own.cell]; rfl
  have c1 : w.cell? ⟨g, 1, none⟩ = some (.bool bad) := by rw [h.own.cell]; rfl
  clear h
  cases bad
  · by_cases h0 : p.length = 0
    · have h0' : ((p.length : Int) == 0) = true := beq_iff_eq.2 (by omega)
      have e : (!false && decide (p.length = 0)) = true := by simp [h0]
      rw [e]
      clear h0 e
      go_enter Tryd.func88, Tryd.ntmps88
      go_wp2_with fail
      go_ret
      exact ⟨rfl, rfl⟩
    · have h0' : ((p.length : Int) == 0) = false := beq_eq_false_iff_ne.2 (by omega)
      have e : (!false && decide (p.length = 0)) = false := by simp [h0]
      rw [e]
      clear h0 e
      go_enter Tryd.func88, Tryd.ntmps88
      go_wp2_with fail
      go_ret
      exact ⟨rfl, rfl⟩
  · go_enter Tryd.func88, Tryd.ntmps88
    go_wp2_with fail
    go_ret
    exact ⟨rfl, rfl⟩

/-- the document's eye goes on by n bytes -/
theorem IsREye.skip {w : World} {g A off cap : Nat} {p : List UInt8} {bad : Bool} (hg : A ≠ g) (h : IsREye w g A (some ⟨A, off, none⟩) cap p bad) (n : Nat) (hn : n ≤ p.length) (o' : Nat) (ho : cap = n ∨ o' = off + n) :
    REyeAt (w.setCell ⟨g, 0, none⟩ (.slice (some ⟨A, o', none⟩) (p.length - n) (cap - n))) g A (p.drop n) bad := by
  have hf := h.row.fit'
  have hm := CS.max h.row
  have hl : (p.drop n).length = p.length - n := List.length_drop
  have hB : BS w (some ⟨A, o', none⟩) (cap - n) (p.drop n) := by
    by_cases h0 : n = p.length
    · have : p.drop n = [] := List.eq_nil_of_length_eq_zero (by omega)
      rw [this]
      exact ⟨by simp, by omega, by simp, .inl (by simp)⟩
    · rcases ho with rfl | rfl
      · omega
      · obtain ⟨b', off', e, hc⟩ := BS.at h.row (by omega)
        cases e
        refine BS.of_row (len := p.length - n) hl (by omega) (by omega) fun i hi => ?_
        have := hc (n + i) (by omega)
        rw [show off + n + i = off + (n + i) from by omega, this]
        simp
  have := h.put1 (a' := some ⟨A, o', none⟩) hB (.inr ⟨hg, _, rfl⟩)
  rw [hl] at this
  exact ⟨_, _, this⟩

set_option maxHeartbeats 1000000 in
theorem rtext_calls (w : World) (g A : Nat) (s : St) (h : REyeAt w g A s.1 s.2) (hl : s.1.length ≤ 1000000) :
    Calls Tryd.prog 87 #[.pointer (some ⟨g, 0, none⟩)] w fun e w' =>
      ∃ a c, e = .returned (.slice a (textS s).1.length c) ∧ BS w' a c (textS s).1 ∧ REyeAt w' g A (textS s).2.1 (textS s).2.2 ∧ Chg [g] w w' := by
  have en := rnum_calls w g A s h
  have hlt := numS_lt s
  have hlen := numS_len s
  unfold textS
  generalize numS s = q at en hlt hlen ⊢
  obtain ⟨n, p, bad⟩ := q
  dsimp only at en hlt hlen ⊢
  have hp : p.length ≤ 1000000 := by omega
  have En := hid en
  clear en h hl hlen
  cases bad
  · rw [if_neg (by decide)]
    by_cases hn : p.length < n
    · rw [if_pos hn]
      have hn' : (p.length : Int) < (n : Int) := by omega
      have hp' : (p.length : Int) ≤ 1000000 := by omega
      clear hn
      go_enter Tryd.func87, Tryd.ntmps87
      go_wp2_with fail
      refine En.out.mono ?_
      rintro e w1 ⟨rfl, h1, hc1⟩
      have C1 := hid hc1
      obtain ⟨a, cap, hI⟩ := h1
      have H1 := hid hI
      have c0 : w1.cell? ⟨g, 0, none⟩ = some (.slice a p.length cap) := by rw [hI.own.cell]; rfl
      have c1 : w1.cell? ⟨g, 1, none⟩ = some (.bool false) := by rw [hI.own.cell]; rfl
      have f0 := hI.own.free 0
      have f1 := hI.own.free 1
      clear hI hc1
      go_wp2_with fail
      go_ret
      exact ⟨none, 0, rfl, BS.nil _, H1.out.put (bad' := true) (BS.nil w1) (.inl rfl), (C1.out.trans (chg_setCell _ g 0 _)).trans (chg_setCell _ g 1 _)⟩
    · rw [if_neg hn]
      have hn' : ¬ ((p.length : Int) < (n : Int)) := by omega
      have hp' : (p.length : Int) ≤ 1000000 := by omega
      go_enter Tryd.func87, Tryd.ntmps87
      go_wp2_with fail
      refine En.out.mono ?_
      rintro e w1 ⟨rfl, h1, hc1⟩
      have C1 := hid hc1
      obtain ⟨a, cap, hI⟩ := h1
      have hf := hI.row.fit'
      have hmx := CS.max hI.row
      have c0 : w1.cell? ⟨g, 0, none⟩ = some (.slice a p.length cap) := by rw [hI.own.cell]; rfl
      have c1 : w1.cell? ⟨g, 1, none⟩ = some (.bool false) := by rw [hI.own.cell]; rfl
      have f0 := hI.own.free 0
      have HI := hid hI
      have hmx' : (cap : Int) ≤ 9223372036854775807 := by unfold maxLen at hmx; omega
      have hfn : n ≤ cap := by omega
      have ht : (p.take n).length = n := by rw [List.length_take]; omega
      have Ht := hid ht
      clear hI hc1 hmx ht
      have key : Kept (∀ v, BS ((w1.setCell ⟨g, 0, none⟩ v).alloc (.cells #[] 5)) a cap (p.take n)) := ⟨fun v =>
        ((HI.out.loc.take n).row (HI.out.row.take n) (chg_setCell w1 g 0 v) (by simp)).below (below_alloc _ _)⟩
      have own0 : Kept (∀ v, OB ((w1.setCell ⟨g, 0, none⟩ v).alloc (.cells #[] 5)) w1.heap.size 5 (.slice (some ⟨w1.heap.size, 0, none⟩) 0 0) []) := ⟨fun v => by
        have := OB.empty (w1.setCell ⟨g, 0, none⟩ v)
        have e : (w1.setCell ⟨g, 0, none⟩ v).heap.size = w1.heap.size := by simp [World.setCell]
        rw [e] at this
        exact this⟩
      have siz : Kept (∀ v, w1.heap.size ≤ ((w1.setCell ⟨g, 0, none⟩ v).alloc (.cells #[] 5)).heap.size) := ⟨fun v => by
        have := (below_alloc (w1.setCell ⟨g, 0, none⟩ v) (.cells #[] 5)).size
        have e : (w1.setCell ⟨g, 0, none⟩ v).heap.size = w1.heap.size := by simp [World.setCell]
        rw [e] at this
        exact this⟩
      have fin : Kept (∀ v v' w', OB w' w1.heap.size 5 v' (p.take n) → Below w1.heap.size ((w1.setCell ⟨g, 0, none⟩ v).alloc (.cells #[] 5)) w' → REyeAt (w1.setCell ⟨g, 0, none⟩ v) g A (p.drop n) false →
          ∃ a c, v' = .slice a (p.take n).length c ∧ BS w' a c (p.take n) ∧ REyeAt w' g A (p.drop n) false ∧ Chg [g] w w') := ⟨fun v v' w' ho hb hR => by
        obtain ⟨a2, c2, e2, hs2, _⟩ := ho.bs
        have e : (w1.setCell ⟨g, 0, none⟩ v).heap.size = w1.heap.size := by simp [World.setCell]
        have hb2 : Below (w1.setCell ⟨g, 0, none⟩ v).heap.size (w1.setCell ⟨g, 0, none⟩ v) w' := by
          refine (below_alloc (w1.setCell ⟨g, 0, none⟩ v) (.cells #[] 5)).trans ?_
          rw [e]; exact hb
        exact ⟨a2, c2, e2, hs2, hR.below hb2, (C1.out.trans (chg_setCell w1 g 0 v)).trans (Chg.of_below _ hb2)⟩⟩
      rcases HI.out.loc with rfl | ⟨hne, off, rfl⟩
      · obtain rfl : n = 0 := by simpa using hn
        have hb0 := HI.out.row
        cases a with
        | none =>
          obtain rfl := CS.none hb0 rfl
          have hR : Kept (REyeAt (w1.setCell ⟨g, 0, none⟩ (.slice none 0 0)) g A [] false) := ⟨⟨_, _, HI.out.put1 (BS.nil _) (.inl rfl)⟩⟩
          go_wp2_with fail
          go_ret
          obtain ⟨a2, c2, e2, h2, h3, h4⟩ := fin.out _ _ _ (own0.out (.slice none 0 0)) (Below.refl _ _) hR.out
          exact ⟨a2, c2, congrArg Ending.returned e2, h2, h3, h4⟩
        | some x =>
          obtain ⟨b, off, spot⟩ := x
          have hR : Kept (REyeAt (w1.setCell ⟨g, 0, none⟩ (.slice (some ⟨b, off, spot⟩) 0 cap)) g A [] false) := ⟨⟨_, _, HI.out.put1 hb0 (.inl rfl)⟩⟩
          have Hb0 := hid hb0
          clear hb0
          go_wp2_with (at_builtin; refine wpList_append_b (.tmp 40) (.tmp 41) _ rfl rfl _ 5 info_u8 under_bytes _ _ (own0.out _) rfl (key.out _) (by rw [Ht.out]; rfl) (by rw [Ht.out]; simp) (siz.out _) ?_; intro v5 w5 hown5 hg5 hb5 _)
          go_ret
          rw [List.nil_append] at hown5
          obtain ⟨a2, c2, e2, h2, h3, h4⟩ := fin.out _ _ _ hown5 hb5 hR.out
          exact ⟨a2, c2, by rw [e2]; simp, h2, h3, h4⟩
      · have Hne := hid hne
        clear hne
        have hR1 : cap = n → Kept (REyeAt (w1.setCell ⟨g, 0, none⟩ (.slice (some ⟨A, off, none⟩) (p.length - n) 0)) g A (p.drop n) false) := fun h => ⟨by
          have := IsREye.skip Hne.out HI.out n (by omega) off (.inl h)
          rw [show cap - n = 0 from by omega] at this
          exact this⟩
        have hR2 : Kept (REyeAt (w1.setCell ⟨g, 0, none⟩ (.slice (some ⟨A, off + n, none⟩) (p.length - n) (cap - n))) g A (p.drop n) false) := ⟨IsREye.skip Hne.out HI.out n (by omega) _ (.inr rfl)⟩
        have hRi : Kept (REyeAt (w1.setCell ⟨g, 0, none⟩ (.slice (if cap = n then some ⟨A, off, none⟩ else some ⟨A, off + n, none⟩) (p.length - n) (cap - n))) g A (p.drop n) false) := ⟨by
          by_cases h : cap = n
          · rw [if_pos h, show cap - n = 0 from by omega]; exact (hR1 h).out
          · rw [if_neg h]; exact hR2.out⟩
        clear hR1 hR2
        by_cases hn0 : n = 0
        · subst hn0
          have hR0 : Kept (REyeAt (w1.setCell ⟨g, 0, none⟩ (.slice (some ⟨A, off, none⟩) p.length cap)) g A (p.drop 0) false) := ⟨IsREye.skip Hne.out HI.out 0 (by omega) off (.inr rfl)⟩
          go_wp2_with fail
          go_ret
          obtain ⟨a2, c2, e2, h2, h3, h4⟩ := fin.out _ _ _ (own0.out _) (Below.refl _ _) hR0.out
          exact ⟨a2, c2, congrArg Ending.returned e2, h2, h3, h4⟩
        · go_wp2_with (at_builtin; refine wpList_append_b (.tmp 40) (.tmp 41) _ rfl rfl _ 5 info_u8 under_bytes _ _ (own0.out _) rfl (key.out _) (by rw [Ht.out]; rfl) (by rw [Ht.out]; simp; omega) (siz.out _) ?_; intro v5 w5 hown5 hg5 hb5 _)
          all_goals
            go_ret
            rw [List.nil_append] at hown5
            obtain ⟨a2, c2, e2, h2, h3, h4⟩ := fin.out _ _ _ hown5 hb5 hRi.out
            exact ⟨a2, c2, by rw [e2]; simp, h2, h3, h4⟩
  · rw [if_pos rfl]
    go_enter Tryd.func87, Tryd.ntmps87
    go_wp2_with fail
    refine En.out.mono ?_
    rintro e w1 ⟨rfl, h1, hc1⟩
    have H1 := hid h1
    have C1 := hid hc1
    obtain ⟨a, cap, hI⟩ := h1
    have c1 : w1.cell? ⟨g, 1, none⟩ = some (.bool true) := by rw [hI.own.cell]; rfl
    clear hI hc1
    go_wp2_with fail
    go_ret
    exact ⟨none, 0, rfl, BS.nil _, H1.out, C1.out⟩
end Go.Proofs.YtmmcmldcbdaooaaDoor
