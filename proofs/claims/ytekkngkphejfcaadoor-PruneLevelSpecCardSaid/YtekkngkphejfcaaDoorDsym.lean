/- Functions that make iterators: prune.symbols. -/
import Derived.Test.YtekkngkphejfcaaDoorDiter
import Derived.Test.YtekkngkphejfcaaDoorWiter
namespace Go.Proofs.YtekkngkphejfcaaDoor
open Go.RowKit

/-- A function value over a box of its own is an iterator, if the code says so. -/
theorem ES.iterOf {P : Program} {Γ : Glo} {f gf : Nat} {ds : List DV} {c : Nat → DV} {d : DV} {encs : List (Array Value)} {Rd : Nat → Prop} (h0 : ES P Γ f ds [] (.fn gf 1 c) [some (.cells [d])] true) (hc : c 0 = .ref 0 0) (hds : ds.all nrefB = true)
    (eg : ∀ args W, (callFunc gf args).run P W = .ok (.enter gf args) W)
    (law : ∀ (w : World) (b o : Nat) (u : Value), Γ.gi w → Γ.ng ≤ b → (∃ cs t, w.heap[b]? = some (.cells cs t (0, 0))) → w.cell? ⟨b, o, none⟩ = some u → RepV (fun _ => False) w d [] u → Iter P gf #[.pointer (some ⟨b, o, none⟩)] encs (fun k => k = b) Rd w)
    (hd : plainC d = true) (hRd : ∀ b, Rd b → b < Γ.ng) (h : DH) : ES P Γ f ds h (.it h.length) (h ++ [some (.iter encs)]) true := by
  refine ⟨h0.1, fun N ρ w args HR hargs => ?_⟩
  refine (h0.2 (MS N h ρ) [] w args (hrel_nil (fun b hb => HR.lt2 hb) HR.gi) ⟨hargs.1, fun i hi => ?_⟩).mono ?_
  · have hx := nrefB_ok (List.all_eq_true.1 hds (ds.getD i .any) (by simp [hi]))
    exact RepV.out _ (out_iff (fun b hb => MS_nil.1 hb) []) (hx _ _ _ _ (hargs.2 i hi))
  · rintro e w' ⟨v, rfl, ⟨⟨ρ', g1, g2, g3, g4⟩, g5⟩⟩
    have hE := g5 rfl
    obtain ⟨p, hp, hob⟩ := g1.obj 0 _ rfl
    have hob : RowAt w' p 1 _ := hob
    have hf : ∀ b, p.foot b → w.heap.size ≤ b := fun b hb => (g3.grow b ⟨0, _, p, rfl, hp, hb⟩).resolve_left fun ⟨k, o', p', q1, _⟩ => by simp at q1
    obtain ⟨lb, hv, hl, hlb⟩ := g2
    obtain ⟨u, hu, hr⟩ := hlb 0 (by omega)
    rw [hc] at hr
    obtain ⟨p', hp', hu2⟩ := hr
    have ep : p' = p := Option.some.inj (hp'.symm.trans hp)
    subst ep
    have hlb' : lb = #[.pointer (some ⟨p'.blk, p'.off, none⟩)] := by
      apply Array.ext
      · simp [hl]
      · intro i h1 h2
        have : i = 0 := by omega
        subst this
        have := Array.getElem?_eq_some_iff.1 hu
        obtain ⟨_, e⟩ := this
        rw [e, hu2]; rfl
    subst hlb'
    obtain ⟨u2, c1, c2⟩ := RowAt.cell hob (j := 0) (by omega)
    have hfoot : p'.foot = fun b => b = p'.blk := hob.1
    have hng : Γ.ng ≤ w.heap.size := Γ.lo _ HR.gi
    have hcell := g1.cel 0 _ p' p'.blk rfl hp (by rw [hfoot])
    refine ⟨v, rfl, ⟨⟨ρ ++ [{ p' with val := v }], HR.snoc hE (fun b hb => ⟨hf b hb, (g1.cel 0 _ p' b rfl hp hb).2.2⟩) ?_, ⟨{ p' with val := v }, by rw [← HR.len]; simp, rfl⟩, Step.snoc HR hE hf, fun _ _ h => get_snoc_left h⟩, g5⟩⟩
    obtain ⟨_, cs, t, hcs, _⟩ := hob
    refine ⟨gf, _, Rd, ⟨hv, eg⟩, ?_, fun b hb => ?_, fun b hb => ?_⟩
    · show Iter P gf _ encs p'.foot Rd w'
      rw [hfoot]
      refine law w' _ _ u2 g1.gi hcell.1 ⟨cs, t, hcs⟩ (by simpa using c1) ?_
      exact RepV.out _ (out_iff (fun b hb => hb.elim) []) (plainC_nil hd c2)
    · have hb' := hRd b hb
      refine ⟨fun hm => ?_, Nat.lt_of_lt_of_le (Nat.lt_of_lt_of_le hb' hng) hE.size⟩
      rcases hm with hm | hm
      · have := (HR.nlt b hm).2; omega
      · rcases MO.snoc HR hm with hm | hm
        · have := HR.low hm; omega
        · have := hf b hm; omega
    · obtain ⟨_, _, c, t, z, h4⟩ := g1.cel 0 _ p' b rfl hp hb
      exact (Array.getElem?_eq_some_iff.1 h4).1
end Go.Proofs.YtekkngkphejfcaaDoor
