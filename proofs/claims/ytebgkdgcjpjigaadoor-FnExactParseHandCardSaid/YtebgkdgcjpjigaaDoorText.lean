/- The text of a card: the walks of spec.l2Text and impl.cardText. -/
import Derived.Test.YtebgkdgcjpjigaaDoorCard
import Derived.Test.YtebgkdgcjpjigaaDoorApp
import Derived.Test.YtebgkdgcjpjigaaDoorNum
import Derived.Lib.SlBytesRow
namespace Go.Proofs.YtebgkdgcjpjigaaDoor
set_option linter.unusedSimpArgs false
set_option linter.unusedVariables false
set_option maxHeartbeats 1000000
open Go.RowKit

theorem rowU8 : RowT Tryd.prog 60 5 1 1 :=
  ⟨Tryd.underlying60, by
    have h : (Tryd.prog.info? 5).map (fun i => (i.zero, i.size, i.bytes)) = some (some (.int .u8 0), 1, 1) := by kernel_rfl
    obtain ⟨i, h1, h2, h3, h4⟩ := info_parts h
    exact ⟨i, _, h1, h2, h3, h4, rfl⟩, by decide⟩

/-- A row of bytes, made a string. -/
theorem own_str {B n : Nat} {v : Value} {w : World} (l : List UInt8) (h : w.ownsRow B 5 1 v n (l.map fun c => .int .u8 (c.toNat : Int))) (hn : 0 < n) :
    (convert 60 9 v).run Tryd.prog w = .ok (.string ⟨l.toArray⟩) w := by
  obtain ⟨h1, h2⟩ := h
  have hl : l.length = n := by simpa using h1
  rcases h2 with ⟨_, h2⟩ | ⟨g, cap, cur, rfl, hb, hh, hc, hm, hcs, ht⟩
  · omega
  · have hz : (⟨l.toArray⟩ : ByteArray).size = n := by simp [ByteArray.size, hl]
    rw [← hz]
    refine Lib.run_convert_whole w _ 5 _ Tryd.underlying60 Tryd.underlying5 Tryd.underlying9 g 0 _ (fun i hi => ?_) cap
    rw [hz] at hi
    have e : cur[i]? = (cur.toList.take (n * 1))[i]? := by rw [List.getElem?_take, if_pos (by omega), Array.getElem?_toList]
    simp only [World.cell?, hh, Nat.zero_add]
    rw [ht] at e
    simp only [Option.isSome_none, Bool.false_eq_true, if_false]
    rw [e, List.getElem?_map, List.getElem?_eq_getElem (by omega)]
    rfl

/-- The text of a card. -/
def textC (c : C4) : List UInt8 := [dig c.a.toNat, dig c.b.toNat, dig c.c.toNat, dig c.d.toNat]
theorem dig_of {t : Int} (h0 : 0 ≤ t) (h2 : t ≤ 2) : ((dig t.toNat).toNat : Int) = 48 + t := by
  have : t = 0 ∨ t = 1 ∨ t = 2 := by omega
  rcases this with rfl | rfl | rfl <;> rfl

end Go.Proofs.YtebgkdgcjpjigaaDoor
