/- The walks of layer 7: records as bytes, and back; the parts of a batch. -/
import Derived.Test.YtoapibbbooongaaDoorChunk
import Derived.Test.YtoapibbbooongaaDoorTxts
namespace Go.Proofs.YtoapibbbooongaaDoor
open Go.RowKit Go.Quad _root_.Quad _root_.Quad.Slab _root_.Quad.Ink

theorem joinL_take {l : List Bytes} {k : Nat} (h : k < l.length) : joinL (l.take (k + 1)) = joinL (l.take k) ++ (numL (l.getD k []).length ++ l.getD k []) := by
  rw [List.take_add_one, List.getElem?_eq_getElem h, Option.toList_some, joinL_append, getD_in h]
  unfold joinL textL
  simp
theorem joinL_le {l : List Bytes} (k : Nat) : (joinL (l.take k)).length ≤ (joinL l).length := by
  conv => rhs; rw [← List.take_append_drop k l, joinL_append, List.length_append]
  omega
def JnRel (w : World) (g : Nat) (l : List Bytes) (iv : Value) (wr : World) : Prop := ∃ (k : Nat) (s : Value), iv = .int .i64 (k : Int) ∧ k ≤ l.length ∧ IsPen wr w.heap.size g s (joinL (l.take k)) false ∧ Below w.heap.size w wr
set_option maxRecDepth 100000 in
set_option maxHeartbeats 1000000 in
theorem join_calls (w : World) (Q : Nat → Prop) (a : Option Addr) (n c : Nat) (l : List Bytes) (h : BL w Q (.slice a n c) l) (hQ : ∀ k, Q k → k < w.heap.size) (hs : ∀ t ∈ l, t.length ≤ 50000) (hl : (joinL l).length ≤ 900000) (hl2 : l.length ≤ 1000000) :
    Calls Tryd.prog 81 #[.slice a n c] w (RetB w.heap.size w (joinL l)) := by
  have H := hid h
  obtain rfl : n = l.length := h.len.1
  have hl' : (l.length : Int) ≤ 1000000 := by omega
  have HS := hid hs
  have HL := hid hl
  have HQ := hid hQ
  clear h hs hl hl2 hQ
  go_enter Tryd.func81, Tryd.ntmps81
  go_wp2_with (go_at_call 103; refine (new_calls w).mono ?_; rintro e w1 ⟨g, rfl, hp, -, hb⟩; have P := hid hp; have B := hid hb; clear hp hb; dsimp only)
  go_loopw [9] (fun iv wr => JnRel w g l iv wr) (fun iv _ => l.length - (intOf iv).toNat)
  case atStart => exact ⟨0, _, rfl, Nat.zero_le _, P.out, B.out⟩
  case round =>
    clear P B
    obtain ⟨k, s, rfl, hk, hp, hb⟩ := hrel
    have P := hid hp
    have B := hid hb
    clear hp hb
    by_cases hlt : k < l.length
    · have hlt' : (k : Int) < (l.length : Int) := by omega
      obtain ⟨b, off, rfl, hq, v, hcell, htx⟩ := (H.out.below B.out).at hlt
      obtain ⟨a', c', rfl, hbs, hin⟩ := htx
      have ht := hid (show (l.getD k []).length ≤ 50000 from HS.out _ (by rw [getD_in hlt]; exact List.getElem_mem hlt))
      have C := hid (pentext_calls wr w.heap.size g s (joinL (l.take k)) a' c' (l.getD k []) P.out (by have := joinL_le (l := l) k; have := HL.out; omega) hbs ht.out (.inr fun x hx hm => by
        have h1 := HQ.out _ (hin x hx)
        have h2 := P.out.pens _ hm
        omega))
      rw [← joinL_take hlt] at C
      clear hbs ht hq hin
      generalize (l.getD k []).length = m at C hcell
      go_wp2_with (go_at_call 104; refine C.out.mono ?_; rintro e w2 ⟨rfl, s2, hp2, hc2, _⟩; have P2 := hid hp2; have C2 := hid hc2; clear hp2 hc2; dsimp only)
      have R : JnRel w g l (.int .i64 ((k : Int) + 1)) w2 := ⟨k + 1, s2, rfl, hlt, P2.out, below_chg B.out B.out.size C2.out fun k hk => P.out.pens k hk⟩
      exact ⟨R, by simp only [intOf]; omega⟩
    · have hlt' : ¬ ((k : Int) < (l.length : Int)) := by omega
      obtain rfl : k = l.length := by omega
      have P' := P.out
      rw [List.take_length] at P'
      have C := hid (inkbytes_calls wr w.heap.size g s (joinL l) P' (by have := HL.out; omega))
      clear P' P
      go_wp2_with (go_at_call 105; refine C.out.mono ?_; rintro e w2 ⟨v, rfl, ho, hb2⟩; have O2 := hid ho; have B2 := hid hb2; clear ho hb2; dsimp only)
      go_ret
      exact ⟨v, rfl, O2.out.base B.out.size, B.out.trans (B2.out.mono B.out.size)⟩
/-! bytes as records -/
def SplitTo (w : World) (p : Bytes) (e : Ending) (w' : World) : Prop := ∃ ts bv, e = .returned (.tuple #[bv, .bool (splitL p).2]) ∧ ts.map TS.p = (splitL p).1 ∧ Texts w w' ts bv ∧ Below w.heap.size w w'
def SpRel (w1 : World) (B g : Nat) (p : Bytes) (bv : Value) (wr : World) : Prop :=
  ∃ (k : Nat) (s : St) (ts : List TS), EyeAt wr B g s.1 s.2 ∧ s.1.length ≤ k ∧ (s.2 = false ∨ s.1 = []) ∧ splitGo k s (ts.map TS.p) = splitGo p.length (p, false) [] ∧ Texts w1 wr ts bv ∧ Chg [g] w1 wr ∧ ts.length + s.1.length ≤ p.length
theorem EyeAt.chgS {S : List Nat} {w w' : World} {B g : Nat} {p : List UInt8} {bad : Bool} (h : EyeAt w B g p bad) (hc : Chg S w w') (hS : ∀ k ∈ S, g < k) : EyeAt w' B g p bad := by
  obtain ⟨a, cap, h⟩ := h
  refine ⟨a, cap, h.own.keep hc (fun hm => by have := hS _ hm; omega), cs_chg h.row hc (fun x hx hm => ?_), h.ge, h.up, h.lt, h.form⟩
  have h1 := h.up x hx
  have h2 := hS _ hm
  omega
def lenAt (w : World) (g : Nat) : Nat := match w.cell? ⟨g, 0, none⟩ with
  | some (.slice _ n _) => n
  | _ => 0
theorem lenAt_eye {w : World} {B g : Nat} {p : Bytes} {bad : Bool} (h : EyeAt w B g p bad) : lenAt w g = p.length := by
  obtain ⟨a, cap, h⟩ := h
  unfold lenAt
  rw [h.own.cell]
  rfl
set_option maxRecDepth 100000 in
set_option maxHeartbeats 2000000 in
theorem split_calls (w : World) (a : Option Addr) (n c : Nat) (p : Bytes) (h : BS w a c p) (hn : p.length = n) (hl : n ≤ 1000000) :
    Calls Tryd.prog 96 #[.slice a n c] w (SplitTo w p) := by
  have C := hid (inkread_calls a c p w h (by omega))
  have hl' : (n : Int) ≤ 1000000 := by omega
  rw [hn] at C
  have HN := hid hn
  clear h hn
  go_enter Tryd.func96, Tryd.ntmps96
  go_wp2_with (go_at_call 113; refine C.out.mono ?_; rintro e w1 ⟨g, rfl, he, hb⟩; have E := hid he; have B := hid hb; clear he hb; dsimp only)
  have HG := hid (show g < w1.heap.size from by obtain ⟨_, _, h⟩ := E.out; exact h.own.lt)
  have R0 := hid (show SpRel w1 w.heap.size g p (.slice none 0 0) w1 from ⟨p.length, (p, false), [], E.out, Nat.le_refl _, .inl rfl, rfl, ⟨RO.nil _ _ _ _ _, by simp⟩, Chg.refl _ _, by simp⟩)
  clear C
  go_loopw [5] (fun bv wr => SpRel w1 w.heap.size g p bv wr) (fun _ wr => lenAt wr g)
  case atStart => exact R0.out
  case round =>
    clear R0 E
    obtain ⟨k, s, ts, he, hk, hb, hgo, htx, hc, hln⟩ := hrel
    have E := hid he
    have HK := hid hk
    have HB := hid hb
    have GO := hid hgo
    have TX := hid htx
    have HC := hid hc
    have HL := hid hln
    have CL := hid (inkleft_calls wr w.heap.size g s.1 s.2 E.out)
    have LN := lenAt_eye E.out
    clear he hk hb hgo hc hln
    obtain ⟨m, hm⟩ : ∃ m, s.1.length = m := ⟨_, rfl⟩
    rw [hm] at CL LN
    obtain ⟨a5, n5, c5, rfl, _, _, _⟩ := htx.rb.cs
    by_cases h0 : 0 < m
    · have h0' : (0 : Int) < (m : Int) := by omega
      obtain ⟨k, rfl⟩ : ∃ k', k = k' + 1 := ⟨k - 1, by have := HK.out; omega⟩
      have hbad : s.2 = false := by
        rcases HB.out with h | h
        · exact h
        · rw [h] at hm; simp at hm; omega
      have HT := hid (etextL_calls wr w.heap.size g s E.out (by have := HL.out; have := HN.out; omega) (Nat.le_trans B.out.size HC.out.size))
      have HLS := hid (textS_less (s := s) (by omega) hbad)
      have hgo2 : splitGo (k + 1) s (ts.map TS.p) = splitGo k (textS s).2 (ts.map TS.p ++ [(textS s).1]) := by
        conv => lhs; unfold splitGo
        rw [if_neg (by omega)]
      have GO2 := hid (hgo2.symm.trans GO.out)
      have HM := hid hm
      have LN' := hid LN
      clear hgo2 hbad hm LN GO HB
      obtain ⟨tt, htt⟩ : ∃ tt, (textS s).1 = tt := ⟨_, rfl⟩
      obtain ⟨s2, hs2⟩ : ∃ s2, (textS s).2 = s2 := ⟨_, rfl⟩
      rw [htt, hs2] at HT GO2
      rw [hs2] at HLS
      clear htt hs2 htx
      go_wp2_with (first
        | (go_at_call 114; go_must (refine CL.out.mono ?_; rintro e w2 ⟨rfl, rfl⟩; dsimp only))
        | (go_at_call 115; go_must (refine HT.out.mono ?_; rintro e w2 ⟨a2, c2, rfl, hbs, he2, hc2, hn2⟩; have BS2 := hid hbs; have E2 := hid he2; have C2 := hid hc2; have N2 := hid hn2; have L2 := hid (cs_lit w2 (tsV ⟨a2, c2, tt⟩) 33 1 1 rfl (by simp [maxLen])); have X2 := hid ((TX.out.keep hc2 (by intro j hj; rw [List.mem_singleton] at hj; subst hj; exact HG.out)).keep (Chg.of_below [] (below_alloc w2 (.cells (tsV ⟨a2, c2, tt⟩).toArray 33))) (by simp)); clear hbs he2 hc2 hn2; dsimp only))
        | (at_builtin; go_must (refine wpList_append_ro tsV_length tsV_one (by decide) (.tmp 11) (.tmp 14) _ rfl rfl w1.heap.size 33 _ 24 info_slb rfl under_slbs _ ts X2.out.rb rfl (l' := [⟨a2, c2, tt⟩]) rfl (show CS _ _ _ _ ([(⟨a2, c2, tt⟩ : TS)].flatMap tsV) from L2.out) (Nat.le_refl _) rfl (by have := HL.out; have := HN.out; simp; omega) (Nat.le_trans (Nat.le_trans HC.out.size C2.out.size) (below_alloc w2 _).size) ?_; intro v3 w3 ho3 hb3 hg3 hw3; have O3 := hid ho3; have G3 := hid hg3; have V3 := hid hw3; have B3 := hid hb3; clear ho3 hb3 hg3 hw3)))
      have hcc : Chg [g] w1 w3 := ((HC.out.trans C2.out).trans (Chg.of_below _ (below_alloc w2 _))).newer (chg_grown G3.out) (fun j hj => (TX.out.rb.ownBlock j (by simpa using hj)).1)
      have he3 : EyeAt w3 w.heap.size g s2.1 s2.2 := (E2.out.below (below_alloc w2 _)).chgS (chg_grown G3.out) (by intro j hj; have := (TX.out.rb.ownBlock j (by simpa using hj)).1; have := HG.out; omega)
      have R : SpRel w1 w.heap.size g p v3 w3 := ⟨k, s2, ts ++ [⟨a2, c2, tt⟩], he3, by have := HK.out; have := HLS.out.1; have := HM.out; omega, (by
        cases hc : s2.2 with
        | false => exact .inl rfl
        | true => exact .inr (HLS.out.2 hc)), by rw [List.map_append]; exact GO2.out,
        TX.out.moreC HC.out.size (C2.out.trans (Chg.of_below _ (below_alloc w2 (.cells (tsV ⟨a2, c2, tt⟩).toArray 33)))) (by intro j hj; rw [List.mem_singleton] at hj; subst hj; exact HG.out) ⟨a2, c2, tt⟩ (bs_keep BS2.out (Chg.of_below [] (below_alloc w2 _)) (.inr (by simp))) (fun x hx => ⟨(N2.out x hx).1, Nat.lt_of_lt_of_le (N2.out x hx).2 (below_alloc w2 _).size⟩) O3.out G3.out V3.out, hcc, by have := HLS.out.1; have := HL.out; have := HM.out; rw [List.length_append, List.length_singleton]; omega⟩
      refine ⟨R, ?_⟩
      rw [lenAt_eye he3]
      have := LN'.out
      have := HLS.out.1
      have := HM.out
      omega
    · have h0' : ¬ ((0 : Int) < (m : Int)) := by omega
      have hsp : splitL p = (ts.map TS.p, !s.2) := by
        have e : splitGo k s (ts.map TS.p) = (ts.map TS.p, s) := by
          obtain ⟨q, b⟩ := s
          have : q = [] := List.eq_nil_of_length_eq_zero (by dsimp only at hm; omega)
          subst this
          exact splitGo_done k b _
        unfold splitL
        rw [← GO.out, e]
      have HSP := hid hsp
      clear hsp
      have CE := hid (end_calls wr w.heap.size g s.1 s.2 E.out)
      go_wp2_with (first
        | (go_at_call 114; go_must (refine CL.out.mono ?_; rintro e w2 ⟨rfl, rfl⟩; dsimp only))
        | (go_at_call 116; go_must (refine CE.out.mono ?_; rintro e w2 ⟨rfl, rfl⟩; dsimp only)))
      all_goals
        go_ret2
        refine ⟨ts, _, ?_, ?_, TX.out.base B.out.size, B.out.trans (HC.out.below B.out.size (by intro j hj; rw [List.mem_singleton] at hj; subst hj; obtain ⟨_, _, h⟩ := E.out; exact h.ge))⟩
        · rw [HSP.out]
          simp_all
        · rw [HSP.out]
end Go.Proofs.YtoapibbbooongaaDoor
