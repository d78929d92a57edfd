/- Texts DY, laid together. -/
import Derived.Test.YtbhenicldddlfaaDoorF1


namespace Go.Proofs.YtbhenicldddlfaaDoor
open Go.RowKit
open Go.Sort (putCells flatK HoldsK Holds size_flatK get_flatK SWO PermIn SortedIn)
open Go.Proofs (sortWorldK CmpLays ltOf)

/-- the contract that the library gives, at these elements -/
def LibSort : Prop := ∀ (w : World) (g cap : Nat) (d : Array (EltS w g)), HoldsK encS 4 w g 0 d → g < w.heap.size → d.size < 4611686018427387904 →
  Calls Tryd.prog 14 #[.slice (some ⟨g, 0, none⟩) d.size cap, .func (.func 15) #[] #[]] w fun e w' =>
    e = .returned (.tuple #[]) ∧ ∃ d' n os, PermIn 0 d.size d d' ∧ SortedIn (ltOf fun x y : EltS w g => lzC (zS x) (zS y)) 0 d.size d' ∧ w' = sortWorldK encS 4 w g 0 n d' os
theorem flatK_raw {w : World} {g : Nat} (d : Array (EltS w g)) : (flatK encS 4 d).toList = flat LzE (d.toList.map Subtype.val) := by
  apply List.ext_getElem?
  intro t
  have hl : (flat LzE (d.toList.map Subtype.val)).length = d.size * 4 := by rw [flat_len]; simp [LzE]
  rcases Nat.lt_or_ge t (d.size * 4) with ht | ht
  · have hi : t / 4 < d.size := by omega
    have e1 : (d.toList.map Subtype.val)[t / 4]? = some (d[t / 4]!).1 := by
      rw [List.getElem?_map, Array.getElem?_toList, getElem!_pos d (t / 4) hi, Array.getElem?_eq_getElem hi]; rfl
    have e2 := flat_get LzE _ (t / 4) (t % 4) _ e1 (Nat.mod_lt _ (by decide : 0 < 4))
    have e3 : t / 4 * LzE.k + t % 4 = t := by show t / 4 * 4 + t % 4 = t; omega
    rw [e3] at e2
    rw [e2, Array.getElem?_toList, Array.getElem?_eq_getElem (by simpa using ht)]
    have e4 := get_flatK (encS (w := w) (g := g)) 4 d t ht
    rw [getElem!_pos _ t (by simpa using ht)] at e4
    rw [e4]
    have hm : t % 4 < (encS d[t / 4]!).length := by show t % 4 < 4; omega
    rw [getElem!_pos (encS (w := w) (g := g) d[t / 4]!) (t % 4) hm]
    exact (List.getElem?_eq_getElem hm).symm
  · rw [Array.getElem?_toList, Array.getElem?_eq_none (by simpa using ht), List.getElem?_eq_none (by rw [hl]; exact ht)]
theorem putCells_take (F cur : Array Value) (h : F.size ≤ cur.size) : (putCells id 0 F cur).size = cur.size ∧ (putCells id 0 F cur).toList.take F.size = F.toList := by
  have hs : (putCells id 0 F cur).size = cur.size := by simp [putCells]
  refine ⟨hs, ?_⟩
  apply List.ext_getElem?
  intro t
  rw [List.getElem?_take]
  split
  · rename_i ht
    rw [Array.getElem?_toList, Array.getElem?_toList, Array.getElem?_eq_getElem (by omega), Array.getElem?_eq_getElem ht]
    simp only [putCells, Array.getElem_mapIdx, Nat.zero_le, true_and, Nat.zero_add, Nat.sub_zero, id]
    rw [if_pos ht, getElem!_pos F t ht]
  · rename_i ht
    rw [Array.getElem?_toList, Array.getElem?_eq_none (by omega)]
theorem sort_lz (hS : LibSort) (w : World) (base n : Nat) (A : Option Addr) (c : Nat) (l : List Lz) (h0 : 0 < n) (hn : n ≤ 4096) (hch : ∀ x ∈ l, x.ch.length ≤ 400) (hown : Own LzE 34 (fun _ => True) w base (.slice A n c) n l) :
    Calls Tryd.prog 14 #[.slice A n c, .func (.func 15) #[] #[]] w (SortP base n A c l w) := by
  obtain ⟨hl, raw, hr, ⟨hrl, hrow⟩, hrel⟩ := hown
  rcases hrow with ⟨-, e⟩ | ⟨g, cap, cur, e, hg, hb, hnc, hcm, hcs, htk⟩
  · omega
  simp only [Value.slice.injEq] at e
  obtain ⟨rfl, -, rfl⟩ := e
  have hob : (Value.slice (some ⟨g, 0, none⟩) n c).ownBlock = some g := rfl
  rw [hob] at hrel
  have hgl : g < w.heap.size := (Array.getElem?_eq_some_iff.1 hb).1
  have hall : ∀ r ∈ raw, rawOk w g r := by
    intro r hr'
    obtain ⟨i, hi, rfl⟩ := List.getElem_of_mem hr'
    have e2 : l[i]? = some (l[i]'(by omega)) := List.getElem?_eq_getElem (by omega)
    obtain ⟨-, -, -, h4⟩ := hrel i _ _ (List.getElem?_eq_getElem hi) e2
    exact ⟨_, hch _ (List.getElem_mem _), h4.mono fun b _ q => q.2⟩
  obtain ⟨d, hd⟩ : ∃ d : Array (EltS w g), d = (raw.pmap (fun r h => (⟨r, h⟩ : EltS w g)) hall).toArray := ⟨_, rfl⟩
  have hdm : d.toList.map Subtype.val = raw := by
    rw [hd, List.map_pmap]
    simp
  have hds : d.size = n := by rw [← hr, ← hdm]; simp
  have hz : d.toList.map zS = l := by
    apply List.ext_getElem?
    intro i
    rcases Nat.lt_or_ge i n with hi | hi
    · have q1 : (d.toList.map Subtype.val)[i]? = some (d[i]'(by omega)).1 := by simp [show i < d.size by omega]
      rw [hdm] at q1
      have q2 : l[i]? = some (l[i]'(by omega)) := List.getElem?_eq_getElem (by omega)
      obtain ⟨k1, k2, k3, k4⟩ := hrel i _ _ q1 q2
      rw [q2, List.getElem?_map, Array.getElem?_toList, Array.getElem?_eq_getElem (by omega)]
      simp only [Option.map_some, Option.some.injEq]
      have k5 := Ints.uniq (chS_sl (d[i]'(by omega))).ints k4.ints
      unfold zS
      rw [k1, k2, k3, k5]
    · rw [List.getElem?_eq_none (by simp; omega), List.getElem?_eq_none (by omega)]
  have hF : (flatK encS 4 d).toList = flat LzE raw := by rw [flatK_raw, hdm]
  have hB : Blk w g 34 cur := hb
  have hfs : (flatK encS 4 d).size = n * 4 := by rw [size_flatK, hds]
  have hH : HoldsK encS 4 w g 0 d := by
    intro j hj
    have hj' : j < n * 4 := by omega
    refine ⟨?_, hB.frozen _⟩
    rw [hB.cell, Nat.zero_add]
    have e1 : cur[j]? = (flatK encS 4 d)[j]? := by
      rw [← Array.getElem?_toList, ← Array.getElem?_toList, hF, ← htk, List.getElem?_take, if_pos (show j < n * LzE.k from hj')]
    rw [e1, Array.getElem?_eq_getElem hj, getElem!_pos _ j hj]; rfl
  have hcon := hS w g c d hH hgl (by omega)
  rw [hds] at hcon
  refine hcon.mono ?_
  rintro e w' ⟨rfl, d', n', os, ⟨hp1, -, hp2⟩, hso, rfl⟩
  have hds' : d'.size = n := by omega
  have hperm : d'.toList.Perm d.toList := by
    have x1 : d'.extract 0 n = d' := by rw [← hds']; simp
    have x2 : d.extract 0 n = d := by rw [← hds]; simp
    rw [x1, x2] at hp2; exact hp2
  obtain ⟨p1, p2⟩ := putCells_take (flatK encS 4 d') cur (by rw [size_flatK, hds', hcs]; exact Nat.mul_le_mul_right _ hnc)
  refine ⟨rfl, d'.toList.map zS, ?_, ?_, ⟨by simp [hds'], d'.toList.map Subtype.val, by simp [hds'], ⟨?_, Or.inr ⟨g, c, _, rfl, hg, sw_row hb, hnc, hcm, by rw [p1]; exact hcs, ?_⟩⟩, ?_⟩, sw_below hg (by omega)⟩
  · rw [← hz]; exact hperm.map _
  · rw [List.pairwise_map, List.pairwise_iff_getElem]
    intro i j hi hj hij
    have h := hso i j (Nat.zero_le _) hij (by simpa [hds'] using hj)
    simp only [ltOf, decide_eq_false_iff_not] at h
    rw [getElem!_pos d' i (by simpa using hi), getElem!_pos d' j (by simpa using hj)] at h
    rw [lzC_key] at h ⊢
    have a1 := cmpL_anti (zS (d'[i]'(by simpa using hi))).key (zS (d'[j]'(by simpa using hj))).key
    simp only [Array.getElem_toList]
    omega
  · rw [flat_len]; simp [hds', LzE]
  · have q1 : (flatK encS 4 d').size = n * LzE.k := by rw [size_flatK, hds']; rfl
    rw [← q1, p2, flatK_raw]
  · intro i r x hr' hx
    rw [List.getElem?_map] at hr' hx
    obtain ⟨y, hy, rfl⟩ := Option.map_eq_some_iff.1 hr'
    rw [hy] at hx
    simp only [Option.map_some, Option.some.injEq] at hx
    subst hx
    exact ⟨rfl, rfl, rfl, ((chS_sl y).agr sw_agr).mono fun b _ q => ⟨trivial, q⟩⟩
end Go.Proofs.YtbhenicldddlfaaDoor

