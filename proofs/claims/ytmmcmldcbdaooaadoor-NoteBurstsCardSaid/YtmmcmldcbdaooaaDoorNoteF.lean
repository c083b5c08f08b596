/- The walks of layer 4: an eye that tells whether a number was too great. -/
import Derived.Test.YtmmcmldcbdaooaaDoorNoteE
import Derived.Test.YtmmcmldcbdaooaaDoorInkD
import Derived.Test.YtmmcmldcbdaooaaDoorRowOps
namespace Go.Proofs.YtmmcmldcbdaooaaDoor
open Go.RowKit Go.Quad _root_.Quad _root_.Quad.Ink

theorem intS_len (s : St) : (intS s).2.1.length ≤ s.1.length := by
  unfold intS; split
  · simp [failS]
  · exact numS_len s
theorem boolS_len (s : St) : (boolS s).2.1.length ≤ s.1.length := by
  unfold boolS; split
  · simp [failS]
  · exact numS_len s

/-- an eye that was made behind a world, and a scan that was there -/
structure ScB (w0 : World) (g gs : Nat) (s : St) (gr : Bool) (w : World) : Prop where
  eye : EyeAt w w0.heap.size g s.1 s.2
  scan : Blk w gs [.pointer (some ⟨g, 0, none⟩), .bool gr] 86
  chg : Chg [gs] w0 w
  lt : gs < w0.heap.size
  len : s.1.length ≤ 100000

theorem ScB.ge {w0 w : World} {g gs : Nat} {s : St} {gr : Bool} (h : ScB w0 g gs s gr w) : w0.heap.size ≤ g ∧ g < w.heap.size := by
  obtain ⟨_, _, h1⟩ := h.eye
  exact ⟨h1.ge, h1.own.lt⟩

theorem EyeAt.keep {S : List Nat} {w w' : World} {B g : Nat} {p : List UInt8} {bad : Bool} (h : EyeAt w B g p bad) (hc : Chg S w w') (hS : ∀ k ∈ S, k < B ∨ (g < k)) : EyeAt w' B g p bad := by
  obtain ⟨a, cap, h⟩ := h
  refine ⟨a, cap, h.own.keep hc (fun hm => ?_), cs_chg h.row hc (fun x hx hm => ?_), h.ge, h.up, h.lt, h.form⟩
  · rcases hS _ hm with e | e
    · have := h.ge; omega
    · omega
  · have h1 := h.up x hx
    have h2 := h.lt x hx
    rcases hS _ hm with e | e <;> omega

/-- what is changed in a block that was made since changes neither -/
theorem ScB.other {w0 w w' : World} {g gs : Nat} {s : St} {gr : Bool} {S : List Nat} (h : ScB w0 g gs s gr w) (hc : Chg S w w') (hS : ∀ k ∈ S, g < k) : ScB w0 g gs s gr w' :=
  ⟨h.eye.keep hc (fun k hk => .inr (hS k hk)), h.scan.keep hc (fun hm => by have := hS _ hm; have := h.ge; have := h.lt; omega),
    h.chg.newer hc (fun q hq => by have := hS q hq; have := h.ge; omega), h.lt, h.len⟩
theorem ScB.below {w0 w w' : World} {g gs : Nat} {s : St} {gr : Bool} (h : ScB w0 g gs s gr w) (hb : Below w.heap.size w w') : ScB w0 g gs s gr w' := h.other (Chg.of_below [] hb) (by simp)

theorem ScB.after {w0 w w' : World} {g gs : Nat} {s s' : St} {gr : Bool} (h : ScB w0 g gs s gr w) (he : EyeAt w' w0.heap.size g s'.1 s'.2) (hc : Chg [g] w w') (hl : s'.1.length ≤ s.1.length) : ScB w0 g gs s' gr w' :=
  ⟨he, h.scan.keep hc (by have := h.ge; have := h.lt; simp; omega), h.chg.newer hc (fun q hq => by simp at hq; have := h.ge; omega), h.lt, by have := h.len; omega⟩

def ScEnd (w0 w : World) (g gs : Nat) (s : St) (gr : Bool) (v : Value) (e : Ending) (w' : World) : Prop := e = .returned v ∧ ScB w0 g gs s gr w' ∧ Chg [g, gs] w w'

theorem sc_int {w0 w : World} {g gs : Nat} {s : St} {gr : Bool} (h : ScB w0 g gs s gr w) :
    Calls Tryd.prog 49 #[.pointer (some ⟨g, 0, none⟩)] w (ScEnd w0 w g gs (intS s).2 gr (.int .i64 ((intS s).1 : Int))) :=
  (eint_calls w _ g s h.eye).mono fun _ _ ⟨h1, h2, h3⟩ => ⟨h1, h.after h2 h3 (intS_len s), h3.mono (by simp)⟩
theorem sc_bool {w0 w : World} {g gs : Nat} {s : St} {gr : Bool} (h : ScB w0 g gs s gr w) :
    Calls Tryd.prog 65 #[.pointer (some ⟨g, 0, none⟩)] w (ScEnd w0 w g gs (boolS s).2 gr (.bool (boolS s).1)) :=
  (ebool_calls w _ g s h.eye).mono fun _ _ ⟨h1, h2, h3⟩ => ⟨h1, h.after h2 h3 (boolS_len s), h3.mono (by simp)⟩

theorem textS_len (s : St) : (textS s).2.1.length ≤ s.1.length := by
  have := numS_len s
  unfold textS
  split
  · exact this
  · split
    · simp [failS]
    · simp; omega

def ScText (w0 w : World) (g gs : Nat) (s : St) (gr : Bool) (t : List UInt8) (e : Ending) (w' : World) : Prop :=
  ∃ a c, e = .returned (.slice a t.length c) ∧ BS w' a c t ∧ ScB w0 g gs s gr w' ∧ Chg [g, gs] w w' ∧ (∀ x, a = some x → w.heap.size ≤ x.block)

theorem sc_text {w0 w : World} {g gs : Nat} {s : St} {gr : Bool} (h : ScB w0 g gs s gr w) :
    Calls Tryd.prog 50 #[.pointer (some ⟨g, 0, none⟩)] w (ScText w0 w g gs (textS s).2 gr (textS s).1) :=
  (etext_calls w _ g s h.eye (by have := h.len; omega) (by have := h.ge; omega)).mono fun _ _ ⟨a, c, h1, h2, h3, h4, h5⟩ => ⟨a, c, h1, h2, h.after h3 h4 (textS_len s), h4.mono (by simp), h5⟩

set_option maxHeartbeats 1000000 in
theorem up_calls {w0 w : World} {g gs : Nat} {s : St} {gr : Bool} (h : ScB w0 g gs s gr w) (top : Nat) (tv : Int) (htv : tv = (top : Int)) (ht : top < 18446744073709551616) :
    Calls Tryd.prog 81 #[.pointer (some ⟨gs, 0, none⟩), .int .u64 tv] w (ScEnd w0 w g gs (numS s).2 (gr || decide (top < (numS s).1)) (.int .u64 ((numS s).1 : Int))) := by
  subst htv
  have c0 := h.scan.get 0 rfl
  have H := hid h
  have hN := enum_calls w _ g s h.eye
  have hlt := numS_lt s
  obtain ⟨n, hn⟩ : ∃ n, (numS s).1 = n := ⟨_, rfl⟩
  obtain ⟨s', hs'⟩ : ∃ s', (numS s).2 = s' := ⟨_, rfl⟩
  have hl := numS_len s
  rw [hn, hs'] at hN
  rw [hn] at hlt
  rw [hs'] at hl
  rw [hn, hs']
  have HN := hid hN
  have Hl := hid hl
  have b1 : (n : Int) ≤ 18446744073709551615 := by omega
  have b2 : (top : Int) ≤ 18446744073709551615 := by omega
  have post : ∀ gr', (gr || decide (top < n)) = gr' → ScEnd w0 w g gs s' (gr || decide (top < n)) (.int .u64 (n : Int)) = ScEnd w0 w g gs s' gr' (.int .u64 (n : Int)) := fun _ h => by rw [h]
  have Hp := hid post
  clear h hN hlt hn hs' hl ht post
  cases gr
  · rw [Hp.out (decide (top < n)) (by simp)]
    clear Hp
    go_enter Tryd.func81, Tryd.ntmps81
    go_wp2_with fail
    refine HN.out.mono ?_
    rintro e w1 ⟨rfl, he, hc⟩
    have S1 := hid (H.out.after he hc Hl.out)
    have C1 := hid hc
    clear he hc c0
    have c1 := S1.out.scan.get 1 rfl
    have f1 := S1.out.scan.free 1
    go_wp2_with fail
    go_ret
    have hS := S1.out
    refine ⟨rfl, ⟨hS.eye.keep (chg_setCell w1 gs 1 (.bool (decide (top < n)))) (fun k hk => by simp at hk; have := hS.lt; omega), ?_, hS.chg.trans (chg_setCell w1 gs 1 _), hS.lt, hS.len⟩, (C1.out.mono (by simp)).trans ((chg_setCell w1 gs 1 _).mono (by simp))⟩
    simpa using hS.scan.set 1 (.bool (decide (top < n)))
  · rw [Hp.out true (by simp)]
    clear Hp
    go_enter Tryd.func81, Tryd.ntmps81
    go_wp2_with fail
    refine HN.out.mono ?_
    rintro e w1 ⟨rfl, he, hc⟩
    have S1 := hid (H.out.after he hc Hl.out)
    have C1 := hid hc
    clear he hc c0
    have c1 := S1.out.scan.get 1 rfl
    have f1 := S1.out.scan.free 1
    go_wp2_with fail
    go_ret
    have hS := S1.out
    refine ⟨rfl, ⟨hS.eye.keep (chg_setCell w1 gs 1 (.bool true)) (fun k hk => by simp at hk; have := hS.lt; omega), ?_, hS.chg.trans (chg_setCell w1 gs 1 _), hS.lt, hS.len⟩, (C1.out.mono (by simp)).trans ((chg_setCell w1 gs 1 _).mono (by simp))⟩
    simpa using hS.scan.set 1 (.bool true)

theorem small_calls {w0 w : World} {g gs : Nat} {s : St} {gr : Bool} (h : ScB w0 g gs s gr w) :
    Calls Tryd.prog 47 #[.pointer (some ⟨gs, 0, none⟩)] w (ScEnd w0 w g gs (numS s).2 (gr || decide (255 < (numS s).1)) (.int .u8 (((numS s).1 % 256 : Nat) : Int))) := by
  have H := hid (fun tv htv => up_calls h 255 tv htv (by decide))
  have hlt := numS_lt s
  obtain ⟨n, hn⟩ : ∃ n, (numS s).1 = n := ⟨_, rfl⟩
  rw [hn] at hlt H ⊢
  have b1 : (n : Int) ≤ 18446744073709551615 := by omega
  clear h hlt hn
  generalize (gr || decide (255 < n)) = gr' at H ⊢
  go_enter Tryd.func47, Tryd.ntmps47
  go_wp2_with fail
  refine (H.out _ rfl).mono ?_
  rintro e w1 ⟨rfl, h1, h2⟩
  have S1 := hid h1
  have C1 := hid h2
  clear h1 h2 H
  go_wp2_with fail
  go_ret
  exact ⟨by simp, S1.out, C1.out⟩

theorem wide_calls {w0 w : World} {g gs : Nat} {s : St} {gr : Bool} (h : ScB w0 g gs s gr w) :
    Calls Tryd.prog 48 #[.pointer (some ⟨gs, 0, none⟩)] w (ScEnd w0 w g gs (numS s).2 (gr || decide (4294967295 < (numS s).1)) (.int .u32 (((numS s).1 % 4294967296 : Nat) : Int))) := by
  have H := hid (fun tv htv => up_calls h 4294967295 tv htv (by decide))
  have hlt := numS_lt s
  obtain ⟨n, hn⟩ : ∃ n, (numS s).1 = n := ⟨_, rfl⟩
  rw [hn] at hlt H ⊢
  have b1 : (n : Int) ≤ 18446744073709551615 := by omega
  clear h hlt hn
  generalize (gr || decide (4294967295 < n)) = gr' at H ⊢
  go_enter Tryd.func48, Tryd.ntmps48
  go_wp2_with fail
  refine (H.out _ rfl).mono ?_
  rintro e w1 ⟨rfl, h1, h2⟩
  have S1 := hid h1
  have C1 := hid h2
  clear h1 h2 H
  go_wp2_with fail
  go_ret
  exact ⟨by simp, S1.out, C1.out⟩
end Go.Proofs.YtmmcmldcbdaooaaDoor
