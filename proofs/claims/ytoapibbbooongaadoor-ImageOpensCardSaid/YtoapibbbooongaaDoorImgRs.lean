/- The document's store of layer 8 in memory: its room, its opening. -/
import Derived.Test.YtoapibbbooongaaDoorImgRt
import Derived.Test.YtoapibbbooongaaDoorImgL
namespace Go.Proofs.YtoapibbbooongaaDoor
open Go.RowKit Go.Quad _root_.Quad _root_.Quad.Slab

theorem addI_len {L : List Img} (h : L.Pairwise (fun a b => a.job < b.job)) (o : Option Img) : (addI L o).length ≤ L.length + 1 := by
  unfold addI
  cases o with
  | none => dsimp only; omega
  | some x =>
    have hs : (setK Img.job x L).length ≤ L.length + 1 := by rw [setK_length Img.job x h]; split <;> omega
    dsimp only
    split
    · exact hs
    · split
      · exact hs
      · omega
theorem listI_len (G : Nat → BlkD × Nat) (n : Nat) : ∀ k, (listI G n k).length ≤ k
  | 0 => Nat.le_refl _
  | k + 1 => by rw [listI_succ]; have := addI_len (lists G n k).sorted (thereI G n k); have := listI_len G n k; omega
theorem usedI_marks (n : Nat) (L : List Img) : markI (List.replicate n false) (L.flatMap Img.at') = usedI n L := by
  have hl : (markI (List.replicate n false) (L.flatMap Img.at')).length = n := by unfold markI; rw [markI_len, List.length_replicate]
  refine List.ext_getElem (by rw [hl]; unfold usedI; simp) fun i h1 h2 => ?_
  rw [hl] at h1
  have h := markI_get i true (L.flatMap Img.at') (List.replicate n false) (by rw [List.length_replicate]; exact h1)
  have e1 : (markI (List.replicate n false) (L.flatMap Img.at'))[i] = (markI (List.replicate n false) (L.flatMap Img.at')).getD i true := by rw [getD_in (by rw [hl]; exact h1)]
  rw [e1]
  unfold markI
  rw [h, getD_in (by rw [List.length_replicate]; exact h1), List.getElem_replicate]
  rw [show (usedI n L)[i] = L.any fun x => x.at'.contains i from by simp [usedI]]
  split
  · rename_i hm
    obtain ⟨x, hx, hi⟩ := List.mem_flatMap.1 hm
    exact (List.any_eq_true.2 ⟨x, hx, by simpa using hi⟩).symm
  · rename_i hm
    refine (List.any_eq_false.2 fun x hx => ?_).symm
    simp only [List.contains_eq_mem, decide_eq_true_eq]
    exact fun hi => hm (List.mem_flatMap.2 ⟨x, hx, hi⟩)
/-- an image of the document's where it lies -/
def RI.At (w : World) (Q : Nat → Prop) (r : RI) : Prop := BL w Q (.slice r.ba r.x.blobs.length r.bc) r.x.blobs ∧ AL w Q (.slice r.aa r.x.at'.length r.ac) r.x.at'
theorem RI.At.keep {S : List Nat} {w w' : World} {Q Q' : Nat → Prop} {r : RI} (h : r.At w Q) (hc : Chg S w w') (hS : ∀ k ∈ S, ¬ Q k) (hQ : ∀ k, Q k → Q' k) : r.At w' Q' := ⟨h.1.keep hc hS hQ, h.2.keep hc hS hQ⟩
/-- its texts and places lie apart from its own two blocks -/
def QX (Q : Nat → Prop) (c d : Nat) : Nat → Prop := fun k => Q k ∧ k ≠ c ∧ k ≠ d
structure XSto (w : World) (Q : Nat → Prop) (B g c d : Nat) (lv : Value) (L : List RI) (I : Im) : Prop where
  own : Blk w c [.pointer (some ⟨g, 0, none⟩), .int .i64 (I.from' : Int), .int .u32 (I.epoch : Int), lv, .slice (some ⟨d, 0, none⟩) I.used.length I.used.length, .bool I.down] 122
  us : Blk w d (I.used.map Value.bool) 4
  row : RO riV 5 w B 53 lv L
  at' : ∀ r ∈ L, r.At w (QX Q c d)
  L : L.map RI.x = I.L
  sorted : I.L.Pairwise (fun a b => a.job < b.job)
  ok : ∀ x ∈ I.L, x.In I.used.length
  cd : c ≠ d
  inQ : Q c ∧ Q d ∧ ∀ k, lv.ownBlock = some k → Q k ∧ k ≠ c ∧ k ≠ d
  lt : ∀ k, Q k → B ≤ k ∧ k < w.heap.size
  few : I.used.length ≤ 4096
theorem XSto.keep {S : List Nat} {w w' : World} {Q Q' : Nat → Prop} {B g c d : Nat} {lv : Value} {L : List RI} {I : Im} (h : XSto w Q B g c d lv L I) (hc : Chg S w w') (hS : ∀ k ∈ S, ¬ Q k) (hQ : ∀ k, Q k → Q' k) (hl : ∀ k, Q' k → B ≤ k ∧ k < w'.heap.size) : XSto w' Q' B g c d lv L I :=
  ⟨h.own.keep hc (fun hm => hS _ hm h.inQ.1), h.us.keep hc (fun hm => hS _ hm h.inQ.2.1), h.row.chg hc (fun k hk hm => hS k hm (h.inQ.2.2 k hk).1), fun r hr => (h.at' r hr).keep hc (fun k hk hq => hS k hk hq.1) (fun k hk => ⟨hQ k hk.1, hk.2⟩), h.L, h.sorted, h.ok, h.cd, ⟨hQ _ h.inQ.1, hQ _ h.inQ.2.1, fun k hk => ⟨hQ k (h.inQ.2.2 k hk).1, (h.inQ.2.2 k hk).2⟩⟩, hl, h.few⟩
theorem XSto.below {w w' : World} {Q : Nat → Prop} {B g c d : Nat} {lv : Value} {L : List RI} {I : Im} (h : XSto w Q B g c d lv L I) (hb : Below w.heap.size w w') : XSto w' Q B g c d lv L I := h.keep (Chg.of_below [] hb) (by simp) (fun _ h => h) (fun k hk => ⟨(h.lt k hk).1, Nat.lt_of_lt_of_le (h.lt k hk).2 hb.size⟩)
/-- all that is newer -/
theorem XSto.new {w w' : World} {n B g c d : Nat} {lv : Value} {L : List RI} {I : Im} (h : XSto w (NewIn n w) B g c d lv L I) (hb : Below w.heap.size w w') (hn : B ≤ n) : XSto w' (NewIn n w') B g c d lv L I :=
  h.keep (Chg.of_below [] hb) (by simp) (fun k hk => ⟨hk.1, Nat.lt_of_lt_of_le hk.2 hb.size⟩) (fun k hk => ⟨Nat.le_trans hn hk.1, hk.2⟩)
/-- a new list of its images -/
theorem XSto.list {w w' : World} {Q Q' : Nat → Prop} {B g c d : Nat} {lv lv' : Value} {L L' : List RI} {I : Im} {l : List Img} (h : XSto w Q B g c d lv L I) (hb : Below w.heap.size w w') (hr : RO riV 5 w' B 53 lv' L') (hn : ∀ k, lv'.ownBlock = some k → w.heap.size ≤ k)
    (ha : ∀ r ∈ L', r.At w' (QX Q' c d)) (hL : L'.map RI.x = l) (hs : l.Pairwise (fun a b => a.job < b.job)) (hok : ∀ x ∈ l, x.In I.used.length) (hQ : ∀ k, Q k → Q' k) (hQn : ∀ k, w.heap.size ≤ k → k < w'.heap.size → Q' k) (hl : ∀ k, Q' k → B ≤ k ∧ k < w'.heap.size) :
    XSto (w'.setCell ⟨c, 3, none⟩ lv') Q' B g c d lv' L' { I with L := l } := by
  have hc := chg_setCell w' c 3 lv'
  have hcl := (h.lt c h.inQ.1).2
  have hdl := (h.lt d h.inQ.2.1).2
  refine ⟨(h.own.below hb).set 3 lv', (h.us.below hb).keep hc (fun hm => by rw [List.mem_singleton] at hm; exact h.cd hm.symm), hr.chg hc (fun k hk hm => by rw [List.mem_singleton] at hm; subst hm; have := hn _ hk; omega), fun r hr' => (ha r hr').keep hc (fun k hk hq => by rw [List.mem_singleton] at hk; exact hq.2.1 hk) (fun _ h => h), hL, hs, hok, h.cd, ⟨hQ _ h.inQ.1, hQ _ h.inQ.2.1, fun k hk => ?_⟩, fun k hk => ⟨(hl k hk).1, Nat.lt_of_lt_of_le (hl k hk).2 hc.size⟩, h.few⟩
  have h1 := hn k hk
  have h2 := (hr.ownBlock k hk).2
  exact ⟨hQn k h1 h2, by omega, by omega⟩
/-- one is marked -/
theorem XSto.mark {w : World} {Q : Nat → Prop} {B g c d : Nat} {lv : Value} {L : List RI} {I : Im} (h : XSto w Q B g c d lv L I) (i : Nat) (b : Bool) : XSto (w.setCell ⟨d, i, none⟩ (.bool b)) Q B g c d lv L { I with used := I.used.set i b } := by
  have hc := chg_setCell w d i (.bool b)
  refine ⟨?_, ?_, h.row.chg hc (fun k hk hm => by rw [List.mem_singleton] at hm; exact (h.inQ.2.2 k hk).2.2 hm), fun r hr => (h.at' r hr).keep hc (fun k hk hq => by rw [List.mem_singleton] at hk; exact hq.2.2 hk) (fun _ h => h), h.L, h.sorted, by simpa using h.ok, h.cd, h.inQ, fun k hk => ⟨(h.lt k hk).1, Nat.lt_of_lt_of_le (h.lt k hk).2 hc.size⟩, by simpa using h.few⟩
  · simpa using h.own.keep hc (fun hm => by rw [List.mem_singleton] at hm; exact h.cd hm)
  · have := h.us.set i (.bool b)
    rw [← List.map_set] at this
    exact this
theorem left_step {m : List Bool} {k : Nat} (h : k < m.length) : leftM (m.take (k + 1)) = leftM (m.take k) + (if m[k] = false then 1 else 0) := by
  unfold leftM
  rw [List.take_succ_eq_append_getElem h, List.countP_append]
  cases m[k] <;> simp
theorem left_take_le (m : List Bool) (k : Nat) : leftM (m.take k) ≤ k := by
  have := left_le (m.take k)
  rw [List.length_take] at this
  omega
def LfRel (w : World) (m : List Bool) (n : Nat) (nv kv : Value) (wr : World) : Prop := ∃ k : Nat, kv = .int .i64 (k : Int) ∧ k ≤ n ∧ nv = .int .i64 (leftM (m.take k) : Int) ∧ w = wr
set_option maxRecDepth 100000 in
set_option maxHeartbeats 2000000 in
theorem nilrsleft_calls (w : World) : Calls Tryd.prog 62 #[.pointer none] w fun e w' => e = .returned (.int .i64 0) ∧ w = w' := by
  go_enter Tryd.func62, Tryd.ntmps62
  go_wp2_with fail
  go_ret
  exact ⟨rfl, rfl⟩
set_option maxRecDepth 100000 in
set_option maxHeartbeats 2000000 in
theorem rsleft_calls (w : World) (Q : Nat → Prop) (B g c d : Nat) (lv : Value) (L : List RI) (I : Im) (h : XSto w Q B g c d lv L I) :
    Calls Tryd.prog 62 #[.pointer (some ⟨c, 0, none⟩)] w fun e w' => e = .returned (.int .i64 (leftM I.used : Int)) ∧ w = w' := by
  have c4 := h.own.get 4 rfl
  obtain ⟨n, hn⟩ : ∃ n, I.used.length = n := ⟨_, rfl⟩
  have hn4 : (n : Int) ≤ 4096 := by have := h.few; omega
  rw [hn] at c4
  have HN := hid hn
  have cell : ∀ i, (hi : i < I.used.length) → w.cell? ⟨d, i, none⟩ = some (.bool (I.used[i]'hi)) := fun i hi => h.us.get i (by rw [List.getElem?_map, List.getElem?_eq_getElem hi]; rfl)
  have CL := hid cell
  clear h cell hn
  go_enter Tryd.func62, Tryd.ntmps62
  go_wp2_with fail
  go_loopw [3, 5, 13] (fun nv _ kv wr => LfRel w I.used n nv kv wr) (fun _ _ kv _ => n - (intOf kv).toNat)
  case atStart => exact ⟨0, rfl, Nat.zero_le _, rfl, rfl⟩
  case round =>
    obtain ⟨k, rfl, hk, rfl, rfl⟩ := hrel
    have hle := left_take_le I.used k
    have hle' : (leftM (I.used.take k) : Int) ≤ 4096 := by omega
    by_cases hlt : k < n
    · have hlt' : (k : Int) < (n : Int) := by omega
      have hst := left_step (m := I.used) (k := k) (by rw [HN.out]; exact hlt)
      have ck := CL.out k (by rw [HN.out]; exact hlt)
      cases hb : I.used[k]'(by rw [HN.out]; exact hlt) with
      | true =>
        rw [hb] at ck
        rw [hb, if_neg (by simp)] at hst
        have R : LfRel w I.used n (.int .i64 (leftM (I.used.take k) : Int)) (.int .i64 ((k : Int) + 1)) w := ⟨k + 1, rfl, hlt, by rw [hst]; rfl, rfl⟩
        have HR := hid R
        clear hst hb hle R
        go_wp2_with fail
        refine ⟨?_, by simp only [intOf]; omega⟩
        first | exact HR.out | ((repeat apply Exists.intro); refine ⟨HR.out, ?_⟩; and_intros <;> rfl)
      | false =>
        rw [hb] at ck
        rw [hb, if_pos rfl] at hst
        have R : LfRel w I.used n (.int .i64 ((leftM (I.used.take k) : Int) + 1)) (.int .i64 ((k : Int) + 1)) w := ⟨k + 1, rfl, hlt, by rw [hst]; rfl, rfl⟩
        have HR := hid R
        clear hst hb hle R
        go_wp2_with fail
        refine ⟨?_, by simp only [intOf]; omega⟩
        first | exact HR.out | ((repeat apply Exists.intro); refine ⟨HR.out, ?_⟩; and_intros <;> rfl)
    · have hlt' : ¬ ((k : Int) < (n : Int)) := by omega
      obtain rfl : k = n := by omega
      have HT := hid (show I.used.take k = I.used from List.take_of_length_le (by rw [HN.out]; exact Nat.le_refl _))
      go_wp2_with fail
      go_ret
      exact ⟨by rw [HT.out]; rfl, rfl⟩
/-- what there tells, either way -/
theorem there_any {w w' : World} {o : Option Img} {e : Ending} (h : ThereTo w o e w') (ho : ∀ x, o = some x → x.job < 4294967296) : ∃ (r : RI) (ok : Bool), e = .returned (.tuple #[.agg (riV r).toArray, .bool ok]) ∧ o = (if ok then some r.x else none) ∧ (ok = true → r.At w' (NewIn w.heap.size w')) ∧ r.x.job < 4294967296 ∧ Below w.heap.size w w' := by
  obtain ⟨hb, h⟩ := h
  cases o with
  | none => exact ⟨riZ, false, h, rfl, by simp, by decide, hb⟩
  | some x =>
    obtain ⟨r, rfl, e, h1, h2⟩ := h
    exact ⟨r, true, e, rfl, fun _ => ⟨h1, h2⟩, ho _ rfl, hb⟩
/-- where a job stands first, as a number -/
def FindIs (L : List RI) (job : Nat) (i : Int) : Prop := (∃ k, ∃ h : k < L.length, i = (k : Int) ∧ L[k].x.job = job) ∨ ((∀ r ∈ L, r.x.job ≠ job) ∧ i = -1)
theorem FindTo.is {w w' : World} {L : List RI} {job : Nat} {e : Ending} (h : FindTo w L job e w') : ∃ i, e = .returned (.int .i64 i) ∧ FindIs L job i ∧ Below w.heap.size w w' := by
  obtain ⟨hb, ⟨k, hk, e, ⟨_, h1⟩, _⟩ | ⟨h1, e⟩⟩ := h
  · exact ⟨_, e, .inl ⟨k, hk, rfl, h1⟩, hb⟩
  · exact ⟨_, e, .inr ⟨h1, rfl⟩, hb⟩
theorem XSto.jobs {w : World} {Q : Nat → Prop} {B g c d : Nat} {lv : Value} {L : List RI} {I : Im} (h : XSto w Q B g c d lv L I) : ∀ r ∈ L, r.x.In I.used.length := fun r hr => h.ok _ (by rw [← h.L]; exact List.mem_map.2 ⟨r, hr, rfl⟩)
theorem XSto.toNew {w : World} {Q : Nat → Prop} {B n g c d : Nat} {lv : Value} {L : List RI} {I : Im} (h : XSto w Q B g c d lv L I) (hn : B ≤ n) (hQ : ∀ k, Q k → n ≤ k) : XSto w (NewIn n w) B g c d lv L I :=
  h.keep (Chg.refl [] w) (by simp) (fun k hk => ⟨hQ k hk, (h.lt k hk).2⟩) (fun k hk => ⟨Nat.le_trans hn hk.1, hk.2⟩)
theorem XSto.len {w : World} {Q : Nat → Prop} {B g c d : Nat} {lv : Value} {L : List RI} {I : Im} (h : XSto w Q B g c d lv L I) : L.length = I.L.length := by rw [← h.L, List.length_map]
end Go.Proofs.YtoapibbbooongaaDoor
