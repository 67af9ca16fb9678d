/- slices.Sort at ints, on the view. -/
import Derived.Test.YtekkngkphejfcaaDoorDdec
import Derived.Test.YtekkngkphejfcaaDoorProg
import Derived.Test.YtekkngkphejfcaaDoorShelf
namespace Go.Proofs.YtekkngkphejfcaaDoor
open Go.RowKit

def insI (a : Int) : List Int → List Int
  | [] => [a]
  | b :: l => if a ≤ b then a :: b :: l else b :: insI a l
def sortI : List Int → List Int
  | [] => []
  | a :: l => insI a (sortI l)
theorem insI_perm (a : Int) : ∀ l : List Int, (insI a l).Perm (a :: l)
  | [] => List.Perm.refl _
  | b :: l => by
    unfold insI
    split
    · exact List.Perm.refl _
    · exact ((insI_perm a l).cons b).trans (List.Perm.swap a b l)
theorem sortI_perm : ∀ l : List Int, (sortI l).Perm l
  | [] => List.Perm.refl _
  | a :: l => (insI_perm a _).trans ((sortI_perm l).cons a)
theorem insI_sorted (a : Int) : ∀ l : List Int, l.Pairwise (· ≤ ·) → (insI a l).Pairwise (· ≤ ·)
  | [], _ => List.pairwise_singleton _ _
  | b :: l, h => by
    have h' := List.pairwise_cons.1 h
    unfold insI
    split
    · rename_i hab
      refine List.pairwise_cons.2 ⟨fun x hx => ?_, h⟩
      rcases List.mem_cons.1 hx with rfl | hx
      · exact hab
      · exact Int.le_trans hab (h'.1 x hx)
    · rename_i hab
      refine List.pairwise_cons.2 ⟨fun x hx => ?_, insI_sorted a l h'.2⟩
      rcases List.mem_cons.1 ((insI_perm a l).mem_iff.1 hx) with rfl | hx
      · omega
      · exact h'.1 x hx
theorem sortI_sorted : ∀ l : List Int, (sortI l).Pairwise (· ≤ ·)
  | [] => List.Pairwise.nil
  | a :: l => insI_sorted a _ (sortI_sorted l)
theorem sortI_eq (l : List Int) : (l.mergeSort fun x y => decide (x ≤ y)) = sortI l := by
  refine List.Perm.eq_of_pairwise (le := (· ≤ ·)) (fun a b _ _ h1 h2 => Int.le_antisymm h1 h2) ?_ (sortI_sorted l) ((List.mergeSort_perm l _).trans (sortI_perm l).symm)
  have := List.pairwise_mergeSort (le := fun x y : Int => decide (x ≤ y)) (fun a b c h1 h2 => by simp at h1 h2 ⊢; omega) (fun a b => by simp; omega) l
  exact this.imp fun h => by simpa using h
theorem sortI_length (l : List Int) : (sortI l).length = l.length := (sortI_perm l).length_eq

theorem heap_put {w : World} {b o : Nat} {l l' : List Int} {cs : Array Value} {t : TypeId} {z : Nat × Nat} (h : w.heap[b]? = some (.cells cs t z)) (hl : l.length = l'.length) (n : Nat) (os : Array Obj) :
    ∃ cs', (Sort.grow (Sort.putRow (Value.int .i64) (Sort.ahead w n) b o l'.toArray) os).heap[b]? = some (.cells cs' t z) ∧ cs'.size = cs.size ∧ ∀ j, j < l.length → o + j < cs.size → cs'[o + j]? = some (.int .i64 (l'.getD j 0)) := by
  have hb : b < w.heap.size := (Array.getElem?_eq_some_iff.1 h).1
  refine ⟨Sort.putCells (Value.int .i64) o l'.toArray cs, ?_, by simp [Sort.putCells], fun j hj hs => ?_⟩
  · simp only [Sort.grow, Sort.putRow, Sort.mapBlock, Sort.ahead]
    rw [Array.getElem?_append_left (by simpa using hb), Array.getElem?_modify, if_pos rfl, h]
    rfl
  · simp only [Sort.putCells, Array.getElem?_mapIdx]
    rw [Array.getElem?_eq_getElem hs]
    simp only [Option.map_some]
    rw [if_pos ⟨by omega, by simp; omega⟩]
    have : o + j - o = j := by omega
    rw [this]
    have hj' : j < l'.length := by omega
    simp [hj', List.getD_eq_getElem?_getD]

theorem upd_put {w : World} {b o : Nat} (hb : b < w.heap.size) (d : Array Int) (n : Nat) (os : Array Obj) : Upd (fun k => k = b) w (Sort.grow (Sort.putRow (Value.int .i64) (Sort.ahead w n) b o d) os) := by
  refine ⟨rfl, rfl, rfl, by simp [Sort.ahead], fun k hk hne => ?_⟩
  simp only [Sort.grow, Sort.putRow, Sort.mapBlock, Sort.ahead]
  rw [Array.getElem?_append_left (by simpa using hk), Array.getElem?_modify, if_neg (fun e => hne e.symm)]

theorem sort_es (l : List Int) {n : Nat} (hn : n = l.length) (hlim : l.length ≤ LIM) : ES Tryd.prog GG 84 [.msl 0 1 0 n] [some (.ints l)] (.tup 0 fun j => ([] : List DV).getD j .any) [some (.ints (sortI l))] false := by
  subst hn
  refine ⟨⟨_, Tryd.func84, by decide, rfl⟩, fun N ρ w args HR hargs => ?_⟩
  obtain ⟨p, hp, hob⟩ := HR.obj 0 _ rfl
  have hob : RowAt w p l.length fun j u => u = .int .i64 (l.getD j 0) := hob
  have h0 := hargs.2 0 (by simp)
  obtain ⟨p', cap, hp', hv, hcap, hlb, hroom⟩ := h0
  have ep : p' = p := Option.some.inj (hp'.symm.trans hp)
  subst ep
  have hsz : args.size = 1 := by have := hargs.1; simpa using this.symm
  have ha : args = #[.slice (some ⟨p'.blk, p'.off, none⟩) l.length cap] := by
    apply Array.ext
    · simp [hsz]
    · intro i h1 h2
      have : i = 0 := by omega
      subst this
      have e : args.getD 0 undef = args[0] := by simp [Array.getD, hsz]
      rw [e] at hv
      rw [hv]; simp
  have hH : Sort.Holds (Value.int .i64) w p'.blk p'.off l.toArray := fun j hj => by
    have hj : j < l.length := by simpa using hj
    obtain ⟨u, c1, c2⟩ := hob.cell hj
    refine ⟨by rw [c1, c2]; simp [hj, List.getD_eq_getElem?_getD], hob.frozen _⟩
  obtain ⟨hfoot, cs, t, hcs, hs1, hs2, _⟩ := hob
  have hb : p'.blk < w.heap.size := (Array.getElem?_eq_some_iff.1 hcs).1
  subst ha
  refine (Tryd.slices_Sort_int p'.blk p'.off cap l w hH hb (by unfold LIM at hlim; omega)).mono ?_
  rintro e w' ⟨rfl, m, os, rfl⟩
  rw [sortI_eq]
  obtain ⟨cs', k1, k2, k3⟩ := heap_put (o := p'.off) hcs (sortI_length l).symm m os
  have hu : Upd p'.foot w (Sort.grow (Sort.putRow (Value.int .i64) (Sort.ahead w m) p'.blk p'.off (sortI l).toArray) os) := by rw [hfoot]; exact upd_put (o := p'.off) hb (sortI l).toArray m os
  show ∃ v, Ending.returned (.tuple #[]) = Ending.returned v ∧ Got Tryd.prog GG N _ ρ w false _ _ v (Sort.grow (Sort.putRow (Value.int .i64) (Sort.ahead w m) p'.blk p'.off (sortI l).toArray) os)
  refine ⟨_, rfl, ⟨⟨ρ, HR.write (o' := .ints (sortI l)) rfl hp hu (fun b hb => ?_) ?_, ⟨#[], rfl, rfl, fun j hj => absurd hj (Nat.not_lt_zero j)⟩, Step.write rfl hp hu, fun _ _ h => h⟩, fun h => by cases h⟩⟩
  · rw [hfoot] at hb
    exact .cells (c := cs') (t := t) (z := (0, 0)) (by rw [show b = p'.blk from hb]; exact k1)
  · refine ⟨hfoot, cs', t, k1, by rw [k2, sortI_length]; exact hs1, by rw [k2]; exact hs2, fun j hj => ?_⟩
    rw [sortI_length] at hj
    exact ⟨_, k3 j hj (by omega), rfl⟩
end Go.Proofs.YtekkngkphejfcaaDoor
