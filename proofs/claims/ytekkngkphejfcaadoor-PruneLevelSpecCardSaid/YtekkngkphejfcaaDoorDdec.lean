/- Rules for functions that are read off the code (wip/tools/dec.py): branches, calls, states made smaller, rows that become lists. -/
import Derived.Test.YtekkngkphejfcaaDoorDglob
namespace Go.Proofs.YtekkngkphejfcaaDoor
open Go.RowKit

theorem iteSome {α : Type} {c : Prop} [Decidable c] {a b : Option α} {r : α} (h : (if c then a else b) = some r) : (c ∧ a = some r) ∨ (¬ c ∧ b = some r) := by
  split at h
  · exact .inl ⟨by assumption, h⟩
  · exact .inr ⟨by assumption, h⟩
theorem guardSome {α : Type} {c : Prop} [Decidable c] {a : Option α} {r : α} (h : (if c then a else none) = some r) : c ∧ a = some r := by
  split at h
  · exact ⟨by assumption, h⟩
  · cases h
theorem bindSome {α β : Type} {o : Option β} {f : β → Option α} {r : α} (h : o.bind f = some r) : ∃ v, o = some v ∧ f v = some r := by
  cases o with
  | none => cases h
  | some v => exact ⟨v, rfl, h⟩
theorem bifSome {α : Type} {b : Bool} {x y : Option α} {r : α} (h : (bif b then x else y) = some r) : (b = true ∧ x = some r) ∨ (b = false ∧ y = some r) := by
  cases b
  · exact .inr ⟨rfl, h⟩
  · exact .inl ⟨rfl, h⟩
/-- It fits (spelt so that the kernel never counts up to the bound). -/
def r64B : Int → Bool
  | .ofNat n => Nat.ble n 9223372036854775807
  | .negSucc n => Nat.ble n 9223372036854775807
def R64 (x : Int) : Prop := r64B x = true
instance (x : Int) : Decidable (R64 x) := by unfold R64; infer_instance
theorem R64_iff {x : Int} : R64 x ↔ -9223372036854775808 ≤ x ∧ x ≤ 9223372036854775807 := by
  unfold R64
  cases x with
  | ofNat n =>
    show Nat.ble n 9223372036854775807 = true ↔ _
    rw [Nat.ble_eq]
    simp only [Int.ofNat_eq_natCast]
    omega
  | negSucc n =>
    show Nat.ble n 9223372036854775807 = true ↔ _
    rw [Nat.ble_eq]
    omega
theorem wr64 {x : Int} (h : R64 x) : DLe (.int .i64 (IntKind.i64.wrap x)) (.int .i64 x) := DLe.int (wrC rfl (R64_iff.1 h).1 (R64_iff.1 h).2)

def comp (live σ : List Nat) (S : St) : St := compactX σ ⟨forget live S.fr, S.h⟩
def sigB (σ : List Nat) (L n : Nat) : Bool := decide σ.Nodup && σ.all (fun k => decide (k < n)) && (List.range L).all fun k => decide (σ[k]? = some k)
theorem SLe.comp {L : Nat} (live σ : List Nat) (S : St) (h : sigB σ L S.h.length = true) : SLe L S (comp live σ S) := by
  simp only [sigB, Bool.and_eq_true, decide_eq_true_eq, List.all_eq_true, List.mem_range] at h
  exact (SLe.forget live S.fr S.h).trans (SLe.compact σ _ h.1.1 (fun k hk => h.1.2 k hk) (fun k hk => h.2 k hk))
def outC (live σ : List Nat) (L : Nat) (r : KO × St × List Prop × Orc) : KO × List DV × DH × List Prop × List (DV × DH × Bool) × List (Nat × DV) × Bool := (r.1, (Proofs.YtekkngkphejfcaaDoor.comp live σ r.2.1).fr, (Proofs.YtekkngkphejfcaaDoor.comp live σ r.2.1).h, r.2.2.1, r.2.2.2.calls, r.2.2.2.co, sigB σ L r.2.1.h.length)

section
variable {P : Program} {Γ : Glo} {F : Fence} {B : Option Nat} {L : Nat} {Y N : Yard P Γ L} {Q : QY P Γ L}

theorem outC_spec {sch : Sch} {n : Nat} {k : List KI} {S : St} {o : Orc} {live σ : List Nat} {r : KO} {fr : List DV} {h' : DH} {vs : List Prop} (h : (krun P Γ sch n k S o).map (outC live σ L) = some (r, fr, h', vs, [], [], true)) :
    ∃ S' o', krun P Γ sch n k S o = some (r, S', vs, o') ∧ SLe L S' ⟨fr, h'⟩ := by
  cases hr : krun P Γ sch n k S o with
  | none => rw [hr] at h; cases h
  | some r =>
    obtain ⟨r1, S1, vs1, ⟨c1, o1, z1, g1⟩⟩ := r
    rw [hr] at h
    simp only [Option.map_some, outC, Option.some.injEq, Prod.mk.injEq] at h
    obtain ⟨rfl, rfl, rfl, rfl, rfl, rfl, hs⟩ := h
    exact ⟨S1, _, rfl, SLe.comp live σ S1 hs⟩
def isCode : List KI → Bool
  | .code _ :: _ => true
  | .loopN _ _ :: _ => true
  | _ => false
theorem RTr.weaken {b : Code} {m : Nat} {S S' : St} (hS : SLe L S S') (h : RTr P Γ F B L b Q m S' Y) : RTr P Γ F B L b Q m S Y := by
  cases m with
  | zero => exact h.elim
  | succ m => exact Tr.weaken hS h
theorem TrK.le {k : List KI} {S S' : St} (hS : SLe L S S') (hc : isCode k = true) (h : TrG P Γ F B L Y Q k S') : TrG P Γ F B L Y Q k S := by
  unfold isCode at hc
  split at hc
  · exact TrG.weaken hS h ⟨_, _, rfl⟩
  · exact RTr.weaken hS h
  · cases hc
/-- Run on to a stop, leave what is not needed. -/
theorem TrK.go (hF : FOk F P) (hm : P.follows .mixedOrders = true) {k : List KI} {S : St} (sch : Sch) (n : Nat) (o : Orc) (live σ : List Nat) (k' : List KI) (fr : List DV) (h' : DH) (vs : List Prop)
    (h : (krun P Γ sch n k S o).map (outC live σ L) = some (.at k', fr, h', vs, [], [], true)) (hv : allP vs) (hc : isCode k' = true) (hk : TrG P Γ F B L Y Q k' ⟨fr, h'⟩) : TrG P Γ F B L Y Q k S := by
  obtain ⟨S', _, h1, h2⟩ := outC_spec h
  exact krun_sound hF hm n k S o _ _ _ _ h1 hv (TrK.le h2 hc hk)
theorem TrK.fin (hF : FOk F P) (hm : P.follows .mixedOrders = true) {fn : Func} {d : DV} {h2 : DH} {k : List KI} {S : St} (sch : Sch) (n : Nat) (o : Orc) (live σ : List Nat) (fr : List DV) (h' : DH) (vs : List Prop)
    (h : (krun P Γ sch n k S o).map (outC live σ L) = some (.ret, fr, h', vs, [], [], true)) (hv : allP vs) (hQ : Fin P fn L d h2 .ret ⟨fr, h'⟩) : TrK P Γ F B L N (Fin P fn L d h2) k S := by
  obtain ⟨S', _, h1, hs⟩ := outC_spec h
  exact krun_sound hF hm n k S o _ _ _ _ h1 hv ⟨rfl, Fin.le hs hQ⟩
theorem TrK.finN (hF : FOk F P) (hm : P.follows .mixedOrders = true) {fn : Func} {d : DV} {h2 : DH} {k : List KI} {S : St} (sch : Sch) (n : Nat) (o : Orc) (live σ : List Nat) (fr : List DV) (h' : DH) (vs : List Prop)
    (h : (krun P Γ sch n k S o).map (outC live σ L) = some (.at [], fr, h', vs, [], [], true)) (hv : allP vs) (hQ : Fin P fn L d h2 .normal ⟨fr, h'⟩) : TrK P Γ F B L N (Fin P fn L d h2) k S := by
  obtain ⟨S', _, h1, hs⟩ := outC_spec h
  exact krun_sound hF hm n k S o _ _ _ _ h1 hv ⟨rfl, Fin.le hs hQ⟩
/-- A slot is read otherwise. -/
theorem SLe.slot {fr : List DV} {h : DH} (i : Nat) (d : DV) (hd : DLe (fr.getD i .any) d) : SLe L ⟨fr, h⟩ ⟨fr.set i d, h⟩ := SLe.fr (by simp) fun j hj => by
  simp only [List.getD_eq_getElem?_getD, List.getElem?_set] at hd ⊢
  by_cases e : i = j
  · subst e; simp only [if_pos hj, if_pos rfl]; exact hd
  · rw [if_neg e]; exact DLe.refl _

theorem SLe.frzE {S : St} (k : Nat) (S' : St) (vs : List Prop) (h : frzX k S = some (S', vs)) (hv : allP vs) : SLe L S S' := fun P Γ N ρ a w R =>
  ⟨ρ, (SLp.frzE k S' vs h hv P Γ N ρ a w R).1, (SLp.frzE k S' vs h hv P Γ N ρ a w R).2, Kept.refl _ _⟩
theorem SLe.compE {S : St} (σ : List Nat) (h : sigB σ L S.h.length = true) : SLe L S (compactX σ S) := by
  simp only [sigB, Bool.and_eq_true, decide_eq_true_eq, List.all_eq_true, List.mem_range] at h
  exact SLe.compact σ _ h.1.1 (fun k hk => h.1.2 k hk) (fun k hk => h.2 k hk)
def noIterD : Option DO → Bool
  | some (.iter _) => false
  | _ => true
theorem noIterB {h : DH} (hb : h.all noIterD = true) : noIter h := fun k encs hk => by
  have := List.all_eq_true.1 hb _ (List.mem_of_getElem? hk)
  cases this
theorem Snap.nilb {h : DH} : Snap h .nils (.bools []) := fun _ _ _ _ _ _ _ hr => DLe.bools_nil _ _ _ _ (RepV.out _ (out_iff (M := fun _ => False) (fun _ hb => hb) []) hr)
theorem Snap.refL {h : DH} {k : Nat} {l l0 : List DV} (hk : h[k]? = some (some (.cells l))) (hs : allSnap h l l0) : Snap h (.ref k 0) (.fp l.length (fun j => l0.getD j .any)) :=
  Snap.ref hk (Nat.le_refl _) fun j hj => (allSnap_ok hs).2 j hj
theorem Snap.fnL {h : DH} {g : Nat} {l l0 : List DV} (hs : allSnap h l l0) : Snap h (.fn g l.length (fun j => l.getD j .any)) (.fn g l.length (fun j => l0.getD j .any)) := by
  rintro P Γ N ρ w v H ⟨lb, e, hl, hc⟩
  exact ⟨lb, e, hl, fun j hj => let ⟨u, h1, h2⟩ := hc j hj; ⟨u, h1, (allSnap_ok hs).2 j hj P Γ N ρ w u H h2⟩⟩
theorem DLe.ixI (l : List Int) {n : Int} {m : Nat} (hm : m = l.length) (h : (0 : Int) ≤ n ∧ n < ((m : Nat) : Int)) : DLe ((l.map (DV.int .i64)).getD n.toNat .any) (.int .i64 (l.getD n.toNat 0)) := by
  subst hm
  have hl : n.toNat < l.length := by omega
  have : (l.map (DV.int .i64)).getD n.toNat .any = .int .i64 (l.getD n.toNat 0) := by simp [hl]
  rw [this]; exact DLe.refl _
theorem DLe.mslN {k m o n n' : Nat} (h : n = n') : DLe (.msl k m o n) (.msl k m o n') := by rw [h]; exact DLe.refl _
def rowB : DO → Bool
  | .ints _ => true
  | .bools _ => true
  | _ => false
/-- A contract about lists that makes a row, used where rows stand. -/
theorem ES.snapNew {f : Nat} {ds ds0 : List DV} {m n : Nat} {o : DO} (h0 : ES P Γ f ds0 [] (.msl 0 m 0 n) [some o] true) (h : DH) (hs : allSnap h ds ds0) (ho : rowB o = true) : ES P Γ f ds h (.msl h.length m 0 n) (h ++ [some o]) true := by
  obtain ⟨hl, hs⟩ := allSnap_ok hs
  refine ⟨h0.1, fun N ρ w args HR hargs => ?_⟩
  refine (h0.2 (fun _ => False) [] w args (hrel_nil (fun b hb => hb.elim) HR.gi) ⟨by rw [hl]; exact hargs.1, fun i hi => ?_⟩).mono ?_
  · rw [hl] at hi
    exact RepV.out _ (out_iff (fun b hb => MS_nil.1 hb) []) (hs i hi P Γ N ρ w _ HR (hargs.2 i hi))
  · rintro e w' ⟨v, rfl, ⟨⟨ρ', g1, g2, g3, g4⟩, g5⟩⟩
    have hE := g5 rfl
    obtain ⟨p, hp, hob⟩ := g1.obj 0 o rfl
    have hf : ∀ b, p.foot b → w.heap.size ≤ b := fun b hb => (g3.grow b ⟨0, o, p, rfl, hp, hb⟩).resolve_left fun ⟨k, o', p', q1, _⟩ => by simp at q1
    obtain ⟨p', cap, hp', e1, e2, e3, e4⟩ := g2
    have ep : p' = p := Option.some.inj (hp'.symm.trans hp)
    subst ep
    refine ⟨v, rfl, ⟨⟨ρ ++ [p'], HR.snoc hE (fun b hb => ⟨hf b hb, (g1.cel 0 o p' b rfl hp hb).2.2⟩) ?_, ⟨p', cap, by rw [← HR.len]; simp, e1, e2, e3, e4⟩, Step.snoc HR hE hf, fun _ _ h => get_snoc_left h⟩, g5⟩⟩
    cases o with
    | ints l => exact RowAt.out hob rfl fun j u _ hu => hu
    | bools l => exact RowAt.out hob rfl fun j u _ hu => hu
    | cells l => cases ho
    | arr m n f => cases ho
    | iter encs => cases ho
    | mo x => cases ho
theorem allSnap_plain {h : DH} : ∀ {ds : List DV}, ds.all nrefB = true → allSnap h ds ds
  | [], _ => trivial
  | d :: ds, hd => by
    simp only [List.all_cons, Bool.and_eq_true] at hd
    exact ⟨Snap.plain hd.1, allSnap_plain hd.2⟩
theorem Fin.here {fn : Func} {d : DV} {h' : DH} {e : Exit} {S : St} (rs : List DV) (hr : resL P S fn.results.toList = some rs) (hd : DLe (tupD rs) d) (hh : S.h = h') (he : e = .normal ∨ e = .ret) : Fin P fn L d h' e S :=
  ⟨he, S, SLe.refl _ _, rs, hr, .inl ⟨hd, hh⟩⟩
theorem Fin.hereC {fn : Func} {d : DV} {h' : DH} {e : Exit} {S : St} (σ : List Nat) (rs : List DV) (hr : resL P S fn.results.toList = some rs) (hi : (S.h.all noIterD && nrefB d && decide (L ≤ S.h.length)) = true) (hd : DLe (tupD rs) d) (hh : (compactX (List.range L) S).h = h') (he : e = .normal ∨ e = .ret) : Fin P fn L d h' e S := by
  simp only [Bool.and_eq_true, decide_eq_true_eq] at hi
  exact ⟨he, S, SLe.refl _ _, rs, hr, .inr ⟨noIterB hi.1.1, hd, nrefB_ok hi.1.2, hi.2, hh⟩⟩
theorem DLe.aggL {m : Nat} {l l' : List DV} (hm : m = l.length) (h : allLe l l') : DLe (.agg m (fun j => l.getD j .any)) (.agg m (fun j => l'.getD j .any)) := by
  subst hm
  rintro M w ρ v ⟨cs, e, hs, hc⟩
  exact ⟨cs, e, hs, fun j hj => let ⟨u, h1, h2⟩ := hc j hj; ⟨u, h1, (allLe_ok h).2 j hj M w ρ u h2⟩⟩
theorem DLe.tupL {m : Nat} {l l' : List DV} (hm : m = l.length) (h : allLe l l') : DLe (.tup m (fun j => l.getD j .any)) (.tup m (fun j => l'.getD j .any)) := by
  subst hm
  rintro M w ρ v ⟨cs, e, hs, hc⟩
  exact ⟨cs, e, hs, fun j hj => let ⟨u, h1, h2⟩ := hc j hj; ⟨u, h1, (allLe_ok h).2 j hj M w ρ u h2⟩⟩
theorem Snap.dle {h : DH} {d d0 : DV} (hn : nrefB d = true) (hd : DLe d d0) : Snap h d d0 := fun P Γ N ρ w v H hr => hd _ _ _ _ ((Snap.nref (nrefB_ok hn)) P Γ N ρ w v H hr)
theorem ES.argsLe {f : Nat} {ds ds0 : List DV} {h h' : DH} {d : DV} {ext : Bool} (h0 : ES P Γ f ds0 h d h' ext) (hd : allLe ds ds0) : ES P Γ f ds h d h' ext := by
  obtain ⟨hl, hd⟩ := allLe_ok hd
  exact ⟨h0.1, fun N ρ w args HR hargs => h0.2 N ρ w args HR ⟨by rw [← hl]; exact hargs.1, fun i hi => hd i (by omega) _ _ _ _ (hargs.2 i (by omega))⟩⟩
theorem DLe.mse_msl {k m o n n' : Nat} (h : 0 < n) (e : n = n') : DLe (.mse k m o n) (.msl k m o n') := by
  subst e
  rintro M w ρ v ⟨p, a, cap, hp, rfl, h1, h2, h3⟩
  obtain ⟨rfl, h4⟩ := h3 (by omega)
  exact ⟨p, cap, hp, rfl, h1, h2, h4⟩
theorem DLe.mse_nil {k m o n : Nat} (h : n = 0) : DLe (.mse k m o n) (.ints []) := by
  subst h
  rintro M w ρ v ⟨p, a, cap, hp, rfl, h1, h2, h3⟩
  exact ⟨a, cap, rfl, Nat.zero_le _, Nat.zero_le _, fun j hj => absurd hj (Nat.not_lt_zero j)⟩
theorem pos_of_bne {n : Nat} (h : (n == 0) = false) : 0 < n := by
  have : n ≠ 0 := by simpa using h
  omega
/-- A row is numbered anew from where it is read. -/
def rootD (k off k' : Nat) : DV → DV
  | .msl k1 m o n => if k1 = k ∧ m = 1 ∧ o = off then .msl k' 1 0 n else .msl k1 m o n
  | d => d
def rootX (k off : Nat) (S : St) : Option (St × List Prop) := match S.h.getD k none with
  | some (.ints l) => some (⟨S.fr.map (rootD k off S.h.length), S.h.set k none ++ [some (.ints (l.drop off))]⟩, [off ≤ l.length])
  | _ => none
theorem SLe.rootE {S : St} (k off : Nat) (S' : St) (vs : List Prop) (h : rootX k off S = some (S', vs)) (hv : allP vs) : SLe L S S' := fun P Γ N ρ a w R => by
  unfold rootX at h
  split at h
  · rename_i l hl
    cases h
    have hv := hv.1
    have hk := getD_some hl
    obtain ⟨p, hp, hr⟩ := R.hr.obj k _ hk
    have hr : RowAt w p l.length _ := hr
    obtain ⟨hf, cs, t, c1, c2, c3, c4⟩ := hr
    let p' : Place := { p with off := p.off + off }
    obtain ⟨g1, g2⟩ := R.hr.regrow (o' := .ints (l.drop off)) (p' := p') hk hp (Upd.refl _ _) (fun b hb => ⟨.inl hb, (R.hr.cel k _ p b hk hp hb).2.2⟩) (by
      refine ⟨hf, cs, t, c1, ?_, c3, fun j hj => ?_⟩
      · simp only [List.length_drop, p']; omega
      · rw [List.length_drop] at hj
        obtain ⟨u, q1, q2⟩ := c4 (off + j) (by omega)
        refine ⟨u, by rw [← q1]; simp only [p', Nat.add_assoc], ?_⟩
        rw [q2]
        simp [List.getD_eq_getElem?_getD, List.getElem?_drop])
    have O : Outl (MS N S.h ρ) w ρ (MS N (S.h.set k none ++ [some (.ints (l.drop off))]) (ρ ++ [p'])) w (ρ ++ [p']) := ⟨fun _ _ _ _ => rfl, fun b hb => hb.elim (fun h => .inl (.inl h)) fun h => (g2.grow b h).imp .inr id, fun _ _ h => get_snoc_left h⟩
    refine ⟨ρ ++ [p'], ⟨g1, by simp [R.fr.1], fun i hi => ?_⟩, g2, fun _ _ _ h => get_snoc_left h⟩
    have hi' : i < S.fr.length := by simpa using hi
    have e : (S.fr.map (rootD k off S.h.length)).getD i .any = rootD k off S.h.length (S.fr.getD i .any) := by simp [hi']
    show RepV _ w ((S.fr.map (rootD k off S.h.length)).getD i .any) _ _
    rw [e]
    have r0 := R.fr.2 i hi'
    cases hd : S.fr.getD i .any with
    | msl k1 m o n =>
      rw [hd] at r0
      by_cases hc : k1 = k ∧ m = 1 ∧ o = off
      · have e2 : rootD k off S.h.length (.msl k1 m o n) = .msl S.h.length 1 0 n := by simp only [rootD, if_pos hc]
        rw [e2]
        obtain ⟨h1, h2, h3⟩ := hc
        rw [h1, h2, h3] at r0
        obtain ⟨q, cap, hq, hu, u1, u2, u3⟩ := r0
        have eq : q = p := Option.some.inj (hq.symm.trans hp)
        subst eq
        exact ⟨p', cap, by rw [← R.hr.len]; simp, by rw [hu]; simp [p'], u1, u2, by simp only [p']; omega⟩
      · have e2 : rootD k off S.h.length (.msl k1 m o n) = .msl k1 m o n := by simp only [rootD, if_neg hc]
        rw [e2]
        exact RepV.out _ O r0
    | _ => rw [hd] at r0; exact RepV.out _ O r0
  · cases h
end
end Go.Proofs.YtekkngkphejfcaaDoor
