/- What a law's row hands to its walk: a slice of bytes that came in reads as bytes. -/
import Derived.Test.YtmmcmldcbdaooaaDoorLib
import Derived.ProofKit
import Derived.OpenShut
import Derived.Deep.DeepHandedRow
import Derived.Lib.LaidTab
namespace Go.Quad
open Go.RowKit

theorem bs_of_row {w : World} {x : Addr} {len cap : Nat} {zs : List Int} (hl : len ≤ cap) (hm : cap ≤ maxLen) (hz : zs.length = cap)
    (hcell : ∀ i, i < zs.length → w.cell? (x.add i) = some (.int .u8 (zs.getD i 0))) (hw : ∀ n ∈ zs, (Lit.int .u8 n).wf = true) : ∃ l : List UInt8, l.length = len ∧ BS w (some x) cap l := by
  by_cases h0 : len = 0
  · subst h0
    exact ⟨[], rfl, ⟨by simp, hm, by simp, .inl (by simp)⟩⟩
  · obtain ⟨b, off, spot⟩ := x
    have hc := hcell 0 (by omega)
    have hspot : spot = none := by simpa [Addr.add] using World.cell?_spot hc
    subst hspot
    refine ⟨(zs.take len).map fun z => UInt8.ofNat z.toNat, by simp; omega, BS.of_row (len := len) (by simp; omega) hl hm fun i hi => ?_⟩
    have hi' : i < len := by simp at hi; omega
    have hci := hcell i (by omega)
    have hadd : (⟨b, off, none⟩ : Addr).add i = ⟨b, off + i, none⟩ := by unfold Addr.add; split <;> simp_all
    rw [hadd] at hci
    rw [hci]
    have hb := bounds_u8 (hw (zs.getD i 0) (by rw [List.getD_eq_getElem?_getD, List.getElem?_eq_getElem (by omega)]; exact List.getElem_mem _))
    simp only [List.getElem_map, List.getElem_take]
    rw [List.getD_eq_getElem?_getD, List.getElem?_eq_getElem (by omega)] at hb ⊢
    simp only [Option.getD_some] at hb ⊢
    congr 2
    generalize zs[i]'(by omega) = z at hb
    have : (UInt8.ofNat z.toNat).toNat = z.toNat := by simp; omega
    rw [this]
    omega

theorem bs_of_nil (w : World) : ∃ l : List UInt8, l.length = 0 ∧ BS w none 0 l := ⟨[], rfl, BS.nil w⟩
end Go.Quad
