/- Plain: so many jobs and no more; of those that are over so many are known; a job's credit. -/
import Derived.Test.YtombndhjoaaaiaaDoorJobMath
namespace Go.Proofs.YtombndhjoaaaiaaDoor
open Go.RowKit Go.Quad _root_.Quad _root_.Quad.Ink

def jb (i : Nat) : JobD := ⟨i, 1, 2, 5, 0, 0⟩
def jd (i : Nat) : JobD := ⟨i, 1, 2, 5, 4, 5⟩
def jl (a n : Nat) : List JobD := (List.range n).map fun x => jb (a + x)
def dl (a n : Nat) : List JobD := (List.range n).map fun x => jd (a + x)
def ol (i : Nat) : List JobD := if i ≤ 64 then dl 1 i else dl (i - 63) 64
def lastF (i : Nat) : List RepD := (List.replicate 8 repZ).set 0 ⟨0, i, 0, i, 0, 0⟩
/-- so many are over, so many active -/
def tJ (i n : Nat) : TbD := ⟨4, i + n, jl (i + 1) n, ol i, lastF (i + n)⟩
def subQ (s : Nat) : ReqD := ⟨0, s, 1, 1, 2, 5, 0⟩

theorem jl_length (a n : Nat) : (jl a n).length = n := by simp [jl]
theorem dl_length (a n : Nat) : (dl a n).length = n := by simp [dl]
theorem jl_succ (a n : Nat) : jl a (n + 1) = jl a n ++ [jb (a + n)] := by simp [jl, List.range_succ]
theorem dl_succ (a n : Nat) : dl a (n + 1) = dl a n ++ [jd (a + n)] := by simp [dl, List.range_succ]
theorem jl_cons (a n : Nat) : jl a (n + 1) = jb a :: jl (a + 1) n := by
  simp only [jl, List.range_succ_eq_map, List.map_cons, List.map_map, Nat.add_zero]
  congr 1
  apply List.map_congr_left
  intro x _
  simp only [Function.comp]
  congr 1
  omega
theorem dl_cons (a n : Nat) : dl a (n + 1) = jd a :: dl (a + 1) n := by
  simp only [dl, List.range_succ_eq_map, List.map_cons, List.map_map, Nat.add_zero]
  congr 1
  apply List.map_congr_left
  intro x _
  simp only [Function.comp]
  congr 1
  omega
theorem jl_mem {a n : Nat} {j : JobD} (h : j ∈ jl a n) : ∃ x, x < n ∧ j = jb (a + x) := by
  simp only [jl, List.mem_map, List.mem_range] at h
  obtain ⟨x, hx, rfl⟩ := h
  exact ⟨x, hx, rfl⟩
theorem dl_mem {a n : Nat} {j : JobD} (h : j ∈ dl a n) : ∃ x, x < n ∧ j = jd (a + x) := by
  simp only [dl, List.mem_map, List.mem_range] at h
  obtain ⟨x, hx, rfl⟩ := h
  exact ⟨x, hx, rfl⟩
theorem ol_length (i : Nat) : (ol i).length = min i 64 := by
  unfold ol
  split <;> rw [dl_length] <;> omega
theorem ol_succ (i : Nat) : overT (ol i) (jd (i + 1)) = ol (i + 1) := by
  unfold overT
  rw [ol_length]
  by_cases h : i + 1 ≤ 64
  · rw [if_neg (by omega)]
    unfold ol
    rw [if_pos (by omega), if_pos h, dl_succ, Nat.add_comm 1 i]
  · rw [if_pos (by omega)]
    unfold ol
    by_cases h2 : i ≤ 64
    · obtain rfl : i = 64 := by omega
      rw [if_pos (by omega), if_neg (by omega)]
      have : dl 1 64 ++ [jd (64 + 1)] = dl 1 65 := by rw [dl_succ 1 64]
      rw [this, dl_cons]
      rfl
    · rw [if_neg h2, if_neg h]
      have : dl (i - 63) 64 ++ [jd (i + 1)] = dl (i - 63) 65 := by rw [dl_succ (i - 63) 64]; congr 3; omega
      rw [this, dl_cons, List.drop_succ_cons, List.drop_zero]
      congr 1
      omega
theorem req_sub (s : Nat) : (reqL (subQ s)).2 = 0 := by
  have : formQ (subQ s) = true := rfl
  unfold reqL
  rw [if_pos this]
theorem last_get (i : Nat) : (lastF i).getD 0 repZ = ⟨0, i, 0, i, 0, 0⟩ := rfl
theorem last_set (i k : Nat) : (lastF i).set 0 ⟨0, k, 0, k, 0, 0⟩ = lastF k := rfl

theorem do_sub (i n : Nat) (hn : n < 64) (hi : i + n < 4294967295) : doT (tJ i n) (subQ (i + n + 1)) = (tJ i (n + 1), ⟨0, i + n + 1, 0, i + n + 1, 0, 0⟩, true) := by
  have ho : orderT (tJ i n) (subQ (i + n + 1)) = 0 := by
    unfold orderT
    show (if i + n + 1 = 0 then (1 : Int) else if i + n + 1 < i + n then 12 else if 1 < i + n + 1 - (i + n) then 11 else 0) = 0
    rw [if_neg (by omega), if_neg (by omega), if_neg (by omega)]
  have hs : submitT (tJ i n) (subQ (i + n + 1)) = (⟨4, i + n + 1, jl (i + 1) (n + 1), ol i, lastF (i + n)⟩, i + n + 1, 0) := by
    unfold submitT
    rw [if_neg (by show ¬ (3 < 1 ∨ (2 : Int) < 1 ∨ (5 : Int) < 1 ∨ (10000 : Int) < 5); omega), if_neg (by show ¬ ((4 : Int) < 2); omega), if_neg (by show ¬ (64 ≤ (jl (i + 1) n).length ∨ i + n = 4294967295); rw [jl_length]; omega)]
    rw [jl_succ]
    have : i + 1 + n = i + n + 1 := by omega
    rw [this]
    rfl
  have ha : actT (tJ i n) (subQ (i + n + 1)) = (⟨4, i + n + 1, jl (i + 1) (n + 1), ol i, lastF (i + n)⟩, i + n + 1, 0) := by
    unfold actT
    rw [if_neg (by show ¬ (1 = 2); omega), hs]
  unfold doT
  rw [if_neg (by rw [req_sub]; simp), if_neg (by show ¬ (1 = 3); omega), if_neg (by rw [ho]; simp), if_neg (by show ¬ (i + n + 1 = i + n); omega), ha]
  dsimp only
  rw [if_pos rfl]
  rfl

theorem do_full : doT (tJ 0 64) (subQ 65) = (tJ 0 64, ⟨0, 65, 8, 0, 0, 0⟩, false) := by
  have ho : orderT (tJ 0 64) (subQ 65) = 0 := by
    unfold orderT
    show (if 65 = 0 then (1 : Int) else if 65 < 0 + 64 then 12 else if 1 < 65 - (0 + 64) then 11 else 0) = 0
    decide
  have ha : actT (tJ 0 64) (subQ 65) = (tJ 0 64, 0, 8) := by
    unfold actT
    rw [if_neg (by show ¬ (1 = 2); omega)]
    unfold submitT
    rw [if_neg (by show ¬ (3 < 1 ∨ (2 : Int) < 1 ∨ (5 : Int) < 1 ∨ (10000 : Int) < 5); omega), if_neg (by show ¬ ((4 : Int) < 2); omega), if_pos (by show 64 ≤ (jl (0 + 1) 64).length ∨ _; rw [jl_length]; exact .inl (Nat.le_refl _))]
  unfold doT
  rw [if_neg (by rw [req_sub]; simp), if_neg (by show ¬ (1 = 3); omega), if_neg (by rw [ho]; simp), if_neg (by show ¬ (65 = 0 + 64); omega), ha]
  rfl

theorem get_first (i n : Nat) : getT (tJ i (n + 1)) (i + 1) = (jb (i + 1), 0) := by
  unfold getT jobT
  show (match ((jl (i + 1) (n + 1)).find? (fun j => j.id == i + 1)).orElse _ with | none => _ | some j => _) = _
  rw [jl_cons, List.find?_cons_of_pos (by simp [jb])]
  rfl
theorem finish_first (i n : Nat) : finishT (tJ i (n + 1)) (i + 1) = (tJ (i + 1) n, 0) := by
  unfold finishT
  rw [get_first]
  rw [if_neg (by simp)]
  unfold endT
  have hf : (jl (i + 1) (n + 1)).filter (fun x => x.id != i + 1) = jl (i + 1 + 1) n := by
    rw [jl_cons, List.filter_cons_of_neg (by simp [jb])]
    apply List.filter_eq_self.2
    intro x hx
    obtain ⟨y, _, rfl⟩ := jl_mem hx
    simp only [jb, bne_iff_ne, ne_eq]
    omega
  have ho := ol_succ i
  show ((⟨4, i + (n + 1), (jl (i + 1) (n + 1)).filter (fun x => x.id != i + 1), overT (ol i) (jd (i + 1)), lastF (i + (n + 1))⟩ : TbD), (0 : Int)) = _
  rw [hf, ho, show i + (n + 1) = i + 1 + n from by omega]
  rfl
theorem over_len (i n : Nat) : (tJ i n).over.length = min i 64 := ol_length i
theorem known_first (k : Nat) (hk : 1 ≤ k) : (jobT (tJ k 64) 1).isSome = decide (k ≤ 64) := by
  unfold jobT
  have h1 : (tJ k 64).active.find? (fun j => j.id == 1) = none := by
    rw [List.find?_eq_none]
    intro x hx
    obtain ⟨y, _, rfl⟩ := jl_mem hx
    simp only [jb, beq_iff_eq]
    omega
  rw [h1]
  show ((ol k).find? (fun j => j.id == 1)).isSome = _
  unfold ol
  by_cases h : k ≤ 64
  · rw [if_pos h]
    obtain ⟨m, rfl⟩ : ∃ m, k = m + 1 := ⟨k - 1, by omega⟩
    rw [dl_cons, List.find?_cons_of_pos (by simp [jd])]
    simp [h]
  · rw [if_neg h]
    have : (dl (k - 63) 64).find? (fun j => j.id == 1) = none := by
      rw [List.find?_eq_none]
      intro x hx
      obtain ⟨y, _, rfl⟩ := dl_mem hx
      simp only [jd, beq_iff_eq]
      omega
    rw [this]
    simp [h]
theorem tJ_new : newT 4 = tJ 0 0 := rfl

/-! ### one job's credit -/
def jc (n : Int) (st : Nat) (c : Int) : JobD := ⟨1, 0, 1, n, st, c⟩
def tC (n best : Int) : TbD := ⟨4, 1, [jc n 0 best], [], lastF 1⟩
def tE (n best : Int) (st : Nat) (s : Nat) : TbD := ⟨4, 1, [], [jc n st best], (List.replicate 8 repZ).set 0 ⟨0, s, 0, 1, 0, 0⟩⟩
def crQ (n : Int) : ReqD := ⟨0, 1, 1, 0, 1, n, 0⟩
def cnQ : ReqD := ⟨0, 2, 2, 0, 0, 0, 1⟩
theorem do_cr (n : Int) (h : 1 ≤ n ∧ n ≤ 10000) : doT (newT 4) (crQ n) = (tC n 0, ⟨0, 1, 0, 1, 0, 0⟩, true) := by
  have hf : formQ (crQ n) = true := by
    unfold formQ crQ
    simp
    omega
  have hr : (reqL (crQ n)).2 = 0 := by unfold reqL; rw [if_pos hf]
  have ha : actT (newT 4) (crQ n) = (⟨4, 1, [jc n 0 0], [], List.replicate 8 repZ⟩, 1, 0) := by
    unfold actT
    rw [if_neg (by show ¬ (1 = 2); omega)]
    unfold submitT
    rw [if_neg (by show ¬ (3 < 0 ∨ (1 : Int) < 1 ∨ n < 1 ∨ (10000 : Int) < n); omega), if_neg (by show ¬ ((4 : Int) < 1); omega), if_neg (by show ¬ (64 ≤ 0 ∨ 0 = 4294967295); omega)]
    rfl
  unfold doT
  rw [if_neg (by rw [hr]; simp), if_neg (by show ¬ (1 = 3); omega), if_neg (by show ¬ ((0 : Int) ≠ 0); simp), if_neg (by show ¬ (1 = 0); omega), ha]
  rfl
theorem get_tC (n best : Int) : getT (tC n best) 1 = (jc n 0 best, 0) := rfl
theorem credit_tC (n best c : Int) : creditT (tC n best) 1 c = if c < 0 ∨ n < c then (tC n best, 1) else if c < best then (tC n best, 12) else (tC n c, 0) := by
  unfold creditT
  rw [get_tC, if_neg (by simp)]
  rfl
theorem finish_tC (n best : Int) : finishT (tC n best) 1 = (tE n n 4 1, 0) := rfl
theorem cancel_tC (n best : Int) : doT (tC n best) cnQ = (tE n best 5 2, ⟨0, 2, 0, 1, 0, 0⟩, true) := rfl
theorem get_tE (n best : Int) (st s : Nat) (h : 4 ≤ st) : getT (tE n best st s) 1 = (jc n st best, 10) := by
  unfold getT
  show (if 4 ≤ st then (jc n st best, (10 : Int)) else _) = _
  rw [if_pos h]
theorem job_tE (n best : Int) (st s : Nat) : jobT (tE n best st s) 1 = some (jc n st best) := rfl
theorem job_tC (n best : Int) : jobT (tC n best) 1 = some (jc n 0 best) := rfl
end Go.Proofs.YtombndhjoaaaiaaDoor
