/- Statements with what follows them: run on the view as far as the next loop; the rules for loops. -/
import Derived.Test.YtekkngkphejfcaaDoorDfun
import Derived.Test.YtekkngkphejfcaaDoorDtree
namespace Go.Proofs.YtekkngkphejfcaaDoor
open Go.RowKit

inductive KI where
  | code (c : Code)
  | blk (id : Nat)
  | scp
  | lend (J : St → Prop)
  | loopN (m : Nat) (b : Code)

/-- At most so many rounds. -/
def RTr (P : Program) (Γ : Glo) (F : Fence) (B : Option Nat) (L : Nat) (b : Code) (Q : QY P Γ L) : Nat → St → Yard P Γ L → Prop
  | 0, _, _ => False
  | m + 1, S, Y => Tr P Γ F B L Y b S (thenQ (RTr P Γ F B L b Q m) Q)
theorem RTr.loop {P : Program} {Γ : Glo} {F : Fence} {B : Option Nat} {L : Nat} {Y : Yard P Γ L} {b : Code} {Q : QY P Γ L} {m : Nat} {S : St} (h : RTr P Γ F B L b Q m S Y) : Tr P Γ F B L Y (.loop b) S Q := by
  refine Tr.loop (fun m S Y => RTr P Γ F B L b Q m S Y) m h fun m S Y hm => ?_
  cases m with
  | zero => exact hm.elim
  | succ m =>
    refine Tr.mono hm fun e S' Y' hq => ?_
    cases e with
    | normal => exact ⟨m, Nat.lt_succ_self m, hq⟩
    | _ => exact hq
/-- What is to hold behind an exit. -/
def TrE (P : Program) (Γ : Glo) (F : Fence) (B : Option Nat) (L : Nat) (Q : QY P Γ L) : List KI → QY P Γ L
  | [], e, S, Y => Q e S Y
  | .code c :: k, e, S, Y => match e with
    | .normal => Tr P Γ F B L Y c S (TrE P Γ F B L Q k)
    | e => TrE P Γ F B L Q k e S Y
  | .blk id :: k, e, S, Y => match e with
    | .exit i => if i = id then TrE P Γ F B L Q k .normal S Y else TrE P Γ F B L Q k (.exit i) S Y
    | e => TrE P Γ F B L Q k e S Y
  | .scp :: k, e, S, Y => match e with
    | .goto _ => False
    | e => TrE P Γ F B L Q k e S Y
  | .lend J :: k, e, S, Y => match e with
    | .normal => J S
    | e => TrE P Γ F B L Q k e S Y
  | .loopN m b :: k, e, S, Y => match e with
    | .normal => RTr P Γ F B L b (TrE P Γ F B L Q k) m S Y
    | e => TrE P Γ F B L Q k e S Y
/-- The state, with what is still to be done, comes to what Q lets. -/
def TrG (P : Program) (Γ : Glo) (F : Fence) (B : Option Nat) (L : Nat) (Y : Yard P Γ L) (Q : QY P Γ L) (k : List KI) (S : St) : Prop := TrE P Γ F B L Q k .normal S Y
/-- Where the yard stays. -/
def stay {P : Program} {Γ : Glo} {L : Nat} (N : Yard P Γ L) (Q : Exit → St → Prop) : QY P Γ L := fun e S Y => Y = N ∧ Q e S
abbrev TrK (P : Program) (Γ : Glo) (F : Fence) (B : Option Nat) (L : Nat) (N : Yard P Γ L) (Q : Exit → St → Prop) (k : List KI) (S : St) : Prop := TrG P Γ F B L N (stay N Q) k S

def popTo (id : Nat) : List KI → Option (List KI)
  | [] => none
  | .blk i :: k => if id = i then some k else popTo id k
  | _ :: k => popTo id k

/-- How a region is gone through: as it comes, in an order, not at all. -/
inductive SchE where
  | no
  | ord (st : List (List Nat × Nat)) (la ta : List Nat)
  | stop
  | tre (early : List Nat) (t : ST)
abbrev Sch := Nat → SchE
def SchE.isStop : SchE → Bool
  | .stop => true
  | _ => false
def stopAt (i : Nat) (s : Sch) : Sch := fun j => if j = i then .stop else s j
def SOk (ops : Array Oper) (steps : List (List Nat × Nat)) (last tail : List Nat) : Prop := (schedB ops steps last tail && noDefer ops && tail.all fun t => decide (t < ops.size)) = true

inductive KO where
  | at (k : List KI)
  | ret

/-- As far as the next loop. -/
def krun (P : Program) (Γ : Glo) (sch : Sch) : Nat → List KI → St → Orc → Option (KO × St × List Prop × Orc)
  | 0, _, _, _ => none
  | n + 1, k, S, o => match k with
    | [] => some (.at [], S, [], o)
    | .blk _ :: k => krun P Γ sch n k S o
    | .scp :: k => krun P Γ sch n k S o
    | .lend J :: k => some (.at (.lend J :: k), S, [], o)
    | .loopN m b :: k => some (.at (.loopN m b :: k), S, [], o)
    | .code c :: k => match c with
      | .skip => krun P Γ sch n k S o
      | .seq a b => krun P Γ sch n (.code a :: .code b :: k) S o
      | .block id b => krun P Γ sch n (.code b :: .blk id :: k) S o
      | .scope b => krun P Γ sch n (.code b :: .scp :: k) S o
      | .label _ => krun P Γ sch n k S o
      | .exit id => match popTo id k with
        | some k' => krun P Γ sch n k' S o
        | none => some (.at (.code (.exit id) :: k), S, [], o)
      | .ret => some (.ret, S, [], o)
      | .cond x a b => match opd S.fr x with
        | .bool true => krun P Γ sch n (.code a :: k) S o
        | .bool false => krun P Γ sch n (.code b :: k) S o
        | _ => none
      | .region id ops dr => if (sch id).isStop then some (.at (.code (.region id ops dr) :: k), S, [], o) else match dr with
       | false => if noDefer ops then match gseq P Γ ops ops.toList S o with
          | none => none
          | some (S', vs, o') => match krun P Γ sch n k S' o' with
            | none => none
            | some (r, S'', vs', o'') => some (r, S'', vs ++ vs', o'')
        else none
       | true => match sch id with
        | .no => none
        | .stop => none
        | .tre early t => match tseq P Γ ops early t S o with
          | none => none
          | some (S', vs, o') => match krun P Γ sch n k S' o' with
            | none => none
            | some (r, S'', vs', o'') => some (r, S'', TOk ops early t :: (vs ++ vs'), o'')
        | .ord st la ta => match hseq P Γ ops st la ta S o with
          | none => none
          | some (S', vs, o') => match krun P Γ sch n k S' o' with
            | none => none
            | some (r, S'', vs', o'') => some (r, S'', SOk ops st la ta :: (vs ++ vs'), o'')
      | c => some (.at (.code c :: k), S, [], o)

section
variable {P : Program} {Γ : Glo} {F : Fence} {B : Option Nat} {L : Nat} {Y : Yard P Γ L} {Q : QY P Γ L}

theorem gseq_tr (hF : FOk F P) {S : St} {id : Nat} {ops : Array Oper} {orc orc' : Orc} {S' : St} {vs : List Prop} {Q : QY P Γ L} (hnd : noDefer ops = true) (h : gseq P Γ ops ops.toList S orc = some (S', vs, orc')) (hv : allP vs) (hk : Q .normal S' Y) : Tr P Γ F B L Y (.region id ops false) S Q := fun N ρ a w R y m b =>
  wpIn_region_list (gseq_sound hF hnd _ (fun o ho => by simpa using ho) R h hv fun ρ' a' w' R' st hdf => Tr.done R y m b hk R' st.st (fun k p _ hp => st.pl k p hp) hdf)
theorem hseq_tr (hF : FOk F P) {S : St} {id : Nat} {ops : Array Oper} {steps : List (List Nat × Nat)} {last tail : List Nat} {orc orc' : Orc} {S' : St} {vs : List Prop} {Q : QY P Γ L} (hm : P.follows .mixedOrders = true) (hB : SOk ops steps last tail)
    (h : hseq P Γ ops steps last tail S orc = some (S', vs, orc')) (hv : allP vs) (hk : Q .normal S' Y) : Tr P Γ F B L Y (.region id ops true) S Q := fun N ρ a w R y m b => by
  simp only [SOk, Bool.and_eq_true] at hB
  obtain ⟨⟨h1, h2⟩, h3⟩ := hB
  have hE : Ext w w.drew := Ext.toDrew w
  refine wpIn_region_sched hF.fn steps last tail hm (by simp only [Bool.and_eq_true]; exact ⟨h1, h2⟩) (hseq_sound hF h2 steps last tail h3 (R.ext hE) h hv fun ρ' a' w' R' st hdf => ?_)
  have st' : Step S.h ρ w S'.h ρ' w' := (Step.ext hE).trans st.st
  exact Tr.done R y m b hk R' st' (fun k p _ hp => st.pl k p hp) hdf

theorem popTo_sound {id : Nat} {S : St} : ∀ {k k' : List KI}, popTo id k = some k' → TrE P Γ F B L Q k' .normal S Y → TrE P Γ F B L Q k (.exit id) S Y
  | [], _, h, _ => by cases h
  | .blk i :: k, k', h, hq => by
    unfold popTo at h
    split at h
    · rename_i e
      cases h
      subst e
      show (if id = id then _ else _)
      rw [if_pos rfl]; exact hq
    · rename_i e
      show (if id = i then _ else _)
      rw [if_neg e]
      exact popTo_sound h hq
  | .code c :: k, k', h, hq => popTo_sound (k := k) h hq
  | .lend J :: k, k', h, hq => popTo_sound (k := k) h hq
  | .scp :: k, k', h, hq => popTo_sound (k := k) h hq
  | .loopN m b :: k, k', h, hq => popTo_sound (k := k) h hq
theorem ret_pass {S : St} (h : Q .ret S Y) : ∀ (k : List KI), TrE P Γ F B L Q k .ret S Y
  | [] => h
  | .blk _ :: k => ret_pass h k
  | .code _ :: k => ret_pass h k
  | .lend _ :: k => ret_pass h k
  | .scp :: k => ret_pass h k
  | .loopN _ _ :: k => ret_pass h k

/-- Where it stops. -/
def KOk (P : Program) (Γ : Glo) (F : Fence) (B : Option Nat) (L : Nat) (Y : Yard P Γ L) (Q : QY P Γ L) : KO → St → Prop
  | .at k, S => TrG P Γ F B L Y Q k S
  | .ret, S => Q .ret S Y

theorem krun_sound (hF : FOk F P) (hm : P.follows .mixedOrders = true) {sch : Sch} : ∀ (n : Nat) (k : List KI) (S : St) (o : Orc) (r : KO) (S' : St) (vs : List Prop) (o' : Orc), krun P Γ sch n k S o = some (r, S', vs, o') → allP vs → KOk P Γ F B L Y Q r S' → TrG P Γ F B L Y Q k S
  | 0, _, _, _, _, _, _, _, h, _, _ => by cases h
  | n + 1, k, S, o, r, S', vs, o', h, hv, hk => by
    unfold krun at h
    cases k with
    | nil => cases h; exact hk
    | cons i k =>
      cases i with
      | blk id => exact krun_sound hF hm n k S o r S' vs o' h hv hk
      | scp => exact krun_sound hF hm n k S o r S' vs o' h hv hk
      | lend J => cases h; exact hk
      | loopN m b => cases h; exact hk
      | code c =>
        show Tr P Γ F B L Y c S (TrE P Γ F B L Q k)
        cases c with
        | skip => exact Tr.skip (krun_sound hF hm n k S o r S' vs o' h hv hk)
        | seq a b =>
          refine Tr.seq (Tr.mono (krun_sound hF hm n (.code a :: .code b :: k) S o r S' vs o' h hv hk) fun e S2 Y2 hq => ?_)
          cases e <;> exact hq
        | block id b =>
          refine Tr.block (Tr.mono (krun_sound hF hm n (.code b :: .blk id :: k) S o r S' vs o' h hv hk) fun e S2 Y2 hq => ?_)
          cases e <;> exact hq
        | exit id =>
          simp only at h
          split at h
          · rename_i k' hp
            exact Tr.exit (popTo_sound hp (krun_sound hF hm n k' S o r S' vs o' h hv hk))
          · cases h; exact hk
        | ret => cases h; exact Tr.ret (ret_pass hk k)
        | cond x a b =>
          simp only at h
          split at h
          · rename_i hc
            exact Tr.cond hc (fun _ => krun_sound hF hm n (.code a :: k) S o r S' vs o' h hv hk) (fun e => by cases e)
          · rename_i hc
            exact Tr.cond hc (fun e => by cases e) (fun _ => krun_sound hF hm n (.code b :: k) S o r S' vs o' h hv hk)
          · cases h
        | region id ops dr =>
         simp only at h
         split at h
         · cases h; exact hk
         · cases dr with
          | false =>
            simp only at h
            split at h
            · rename_i hnd
              split at h
              · cases h
              · rename_i S1 vs1 o1 h1
                split at h
                · cases h
                · rename_i r2 S2 vs2 o2 h2
                  cases h
                  obtain ⟨hv1, hv2⟩ := allP_append.1 hv
                  exact gseq_tr hF hnd h1 hv1 (krun_sound hF hm n k S1 o1 _ _ _ _ h2 hv2 hk)
            · cases h
          | true =>
            simp only at h
            split at h
            · cases h
            · cases h
            · rename_i early t hs
              split at h
              · cases h
              · rename_i S1 vs1 o1 h1
                split at h
                · cases h
                · rename_i r2 S2 vs2 o2 h2
                  cases h
                  obtain ⟨hv0, hv'⟩ := hv
                  obtain ⟨hv1, hv2⟩ := allP_append.1 hv'
                  exact Tr.tree hF hm hv0 h1 hv1 (krun_sound hF hm n k S1 o1 _ _ _ _ h2 hv2 hk)
            · rename_i st la ta hs
              split at h
              · cases h
              · rename_i S1 vs1 o1 h1
                split at h
                · cases h
                · rename_i r2 S2 vs2 o2 h2
                  cases h
                  obtain ⟨hv0, hv'⟩ := hv
                  obtain ⟨hv1, hv2⟩ := allP_append.1 hv'
                  exact hseq_tr hF hm hv0 h1 hv1 (krun_sound hF hm n k S1 o1 _ _ _ _ h2 hv2 hk)
        | loop b => cases h; exact hk
        | rangeFunc f ps as bd => cases h; exact hk
        | scope b =>
          refine Tr.scope (Tr.mono (krun_sound hF hm n (.code b :: .scp :: k) S o r S' vs o' h hv hk) fun e S2 Y2 hq => ?_)
          cases e <;> exact hq
        | label l => exact Tr.label (krun_sound hF hm n k S o r S' vs o' h hv hk)
        | goto l => cases h; exact hk
        | refuse w => cases h; exact hk

theorem TrG.weaken {k : List KI} {S S' : St} (hS : SLe L S S') (h : TrG P Γ F B L Y Q k S') (hk : ∃ c k', k = .code c :: k') : TrG P Γ F B L Y Q k S := by
  obtain ⟨c, k', rfl⟩ := hk
  exact Tr.weaken hS h

def isLoop : List KI → Bool
  | .code (.loop _) :: _ => true
  | _ => false
def bodyS (k : List KI) (J : St → Prop) : List KI := match k with
  | .code (.loop b) :: rest => .code b :: .lend J :: rest
  | _ => []
def tailS (k : List KI) : List KI := match k with
  | _ :: rest => rest
  | [] => []
/-- The loop of a block, with what follows it. -/
def findL (id : Nat) : Code → List KI → Option (List KI)
  | .seq a b, k => match findL id a (.code b :: k) with
    | some r => some r
    | none => findL id b k
  | .cond _ a b, k => match findL id a k with
    | some r => some r
    | none => findL id b k
  | .block i c, k => if i = id then some (.code c :: .blk i :: k) else findL id c (.blk i :: k)
  | .scope c, k => findL id c (.scp :: k)
  | _, _ => none
/-- .. within loops whose rounds are counted. -/
def findN (id : Nat) : List Nat → Code → List KI → Option (List KI)
  | ms, .seq a b, k => match findN id ms a (.code b :: k) with
    | some r => some r
    | none => findN id ms b k
  | ms, .cond _ a b, k => match findN id ms a k with
    | some r => some r
    | none => findN id ms b k
  | ms, .block i c, k => if i = id then some (.code c :: .blk i :: k) else findN id ms c (.blk i :: k)
  | ms, .scope c, k => findN id ms c (.scp :: k)
  | m :: ms, .loop b, k => findN id ms b (.loopN m b :: k)
  | _, _, _ => none
def atN (f : Func) (id : Nat) (ms : List Nat) : List KI := match f.body with
  | some c => (findN id ms c []).getD []
  | none => []
def findG (id : Nat) : List Nat → Code → List KI → Option (List KI)
  | ms, .seq a b, k => match findG id ms a (.code b :: k) with
    | some r => some r
    | none => findG id ms b k
  | ms, .cond _ a b, k => match findG id ms a k with
    | some r => some r
    | none => findG id ms b k
  | ms, .block i c, k => findG id ms c (.blk i :: k)
  | ms, .scope c, k => findG id ms c (.scp :: k)
  | m :: ms, .loop b, k => findG id ms b (.loopN m b :: k)
  | _, .region i ops dr, k => if i = id then some (.code (.region i ops dr) :: k) else none
  | _, _, _ => none
def atG (f : Func) (id : Nat) (ms : List Nat) : List KI := match f.body with
  | some c => (findG id ms c []).getD []
  | none => []
def toN (m : Nat) (k : List KI) : List KI := match k with
  | .code (.loop b) :: rest => .loopN m b :: rest
  | _ => []
def unN (m : Nat) (k : List KI) : List KI := match k with
  | .code (.loop b) :: rest => .code b :: .loopN m b :: rest
  | _ => []
def atL (f : Func) (id : Nat) : List KI := match f.body with
  | some c => (findL id c []).getD []
  | none => []
def inL (id : Nat) (k : List KI) (J : St → Prop) : List KI := match k with
  | .code (.loop b) :: rest => (findL id b (.lend J :: rest)).getD []
  | _ => []
def start (f : Func) : List KI := match f.body with
  | some c => [.code c]
  | none => []
def regOps (c : Code) (id : Nat) : Array Oper := match c with
  | .region i ops _ => if i = id then ops else #[]
  | .seq a b => let x := regOps a id; if x.size = 0 then regOps b id else x
  | .cond _ a b => let x := regOps a id; if x.size = 0 then regOps b id else x
  | .block _ c => regOps c id
  | .loop c => regOps c id
  | .scope c => regOps c id
  | .rangeFunc _ _ a b => let x := regOps a id; if x.size = 0 then regOps b id else x
  | _ => #[]
def regF (f : Func) (id : Nat) : Array Oper := match f.body with
  | some c => regOps c id
  | none => #[]

theorem TrK.enter {k : List KI} {S : St} (m : Nat) (hk : isLoop k = true) (h : TrG P Γ F B L Y Q (toN m k) S) : TrG P Γ F B L Y Q k S := by
  unfold isLoop at hk
  split at hk
  · exact RTr.loop h
  · cases hk
theorem TrK.round {k : List KI} {S : St} {n m : Nat} (hm : n + 1 ≤ m) (hk : isLoop k = true) (h : ∀ m, n ≤ m → TrG P Γ F B L Y Q (unN m k) S) : TrG P Γ F B L Y Q (toN m k) S := by
  cases m with
  | zero => omega
  | succ m =>
    have h := h m (Nat.le_of_succ_le_succ hm)
    unfold isLoop at hk
    split at hk
    · refine Tr.mono h fun e S' Y' hq => ?_
      cases e <;> exact hq
    · cases hk
/-- A frame of n slots, of which some are known. -/
def frm (n : Nat) (l : List (Nat × DV)) : List DV := (List.range n).map fun i => match l.find? (fun x => x.1 == i) with
  | some x => x.2
  | none => .any

theorem Fin.le {fn : Func} {d : DV} {h' : DH} {e : Exit} {S S' : St} (hS : SLe L S S') (h : Fin P fn L d h' e S') : Fin P fn L d h' e S := by
  obtain ⟨he, S'', h1, h2⟩ := h
  exact ⟨he, S'', hS.trans h1, h2⟩
/-- The end of a function that hands out no row of its own. -/
theorem Fin.plain {fn : Func} {d : DV} {e : Exit} {S : St} (rs : List DV) (hr : resL P (compactX [] S) fn.results.toList = some rs) (hd : DLe (tupD rs) d) (he : e = .normal ∨ e = .ret) : Fin P fn 0 d [] e S :=
  ⟨he, _, SLe.compact [] S List.nodup_nil (fun k hk => by cases hk) (fun k hk => absurd hk (Nat.not_lt_zero k)), rs, hr, .inl ⟨hd, rfl⟩⟩
theorem ES.of_trk {f : Nat} {fn : Func} {ds : List DV} {h : DH} {d : DV} {h' : DH} {ext : Bool} (hf : P.funcs[f]? = some fn) (hb : fn.body.isSome = true) (hname : (fn.name == "runtime.NumGoroutine") = false) (hni : noIter h') (hext : ext = true → h = [])
    (H : ∀ (B : Nat) (N : Yard P Γ h.length), TrK P Γ Fence.wide (some B) h.length N (Fin P fn h.length d h') (start fn) ⟨ds ++ List.replicate (fn.ntmps - ds.length) .any, h⟩) : ES P Γ f ds h d h' ext := by
  cases hc : fn.body with
  | none => rw [hc] at hb; cases hb
  | some c =>
    refine ES.of_tr hf hc (by simpa using hname) hni (fun B N => ?_) hext
    have := H B N
    unfold start at this
    rw [hc] at this
    refine Tr.mono this fun e S Y hq => ?_
    cases e <;> exact hq
/-- What the arguments' standing for something tells may be used. -/
theorem ES.assume {f : Nat} {fn : Func} {ds : List DV} {h : DH} {d : DV} {h' : DH} {ext : Bool} {C : Prop} (hC : ∀ M w ρ args, FrRep M w ρ ds args → C) (hf : P.funcs[f]? = some fn) (hn : (fn.name == "runtime.NumGoroutine") = false) (hb : fn.body.isSome = true) (H : C → ES P Γ f ds h d h' ext) : ES P Γ f ds h d h' ext :=
  ⟨⟨fn, hf, by simpa using hn, hb⟩, fun N ρ w args HR ha => (H (hC _ _ _ _ ha)).2 N ρ w args HR ha⟩
def nrefB : DV → Bool
  | .mse .. => false
  | .mri .. => false
  | .ref .. => false
  | .msl .. => false
  | .mp .. => false
  | .it _ => false
  | .agg m f => (List.range m).all fun j => nrefB (f j)
  | .tup m f => (List.range m).all fun j => nrefB (f j)
  | .fn _ m f => (List.range m).all fun j => nrefB (f j)
  | _ => true
theorem nrefB_ok : ∀ {d : DV}, nrefB d = true → Nref d := by
  intro d
  induction d with
  | any => exact fun _ _ _ _ _ _ => trivial
  | nils => exact fun _ _ _ _ _ h => h
  | int k n => exact fun _ _ _ _ _ h => h
  | bool b => exact fun _ _ _ _ _ h => h
  | str s => exact fun _ _ _ _ _ h => h
  | ints l => exact fun _ _ _ _ _ h => h
  | bools l => exact fun _ _ _ _ _ h => h
  | sl m n f _ => exact fun _ _ _ _ _ h => h
  | fp m f _ => exact fun _ _ _ _ _ h => h
  | agg m f ih => exact fun hb => Nref.agg fun j hj => ih j (List.all_eq_true.1 hb j (List.mem_range.2 hj))
  | tup m f ih => exact fun hb => Nref.tup fun j hj => ih j (List.all_eq_true.1 hb j (List.mem_range.2 hj))
  | ref k j => exact fun hb => by cases hb
  | msl k m o n => exact fun hb => by cases hb
  | mp k m i j => exact fun hb => by cases hb
  | fn g m c ih => exact fun hb M w ρ v ⟨cs, e, hs, hc⟩ => ⟨cs, e, hs, fun j hj => let ⟨u, h1, h2⟩ := hc j hj; ⟨u, h1, ih j (List.all_eq_true.1 hb j (List.mem_range.2 hj)) M w ρ u h2⟩⟩
  | it k => exact fun hb => by cases hb
  | yl l => exact fun _ _ _ _ _ h => h
  | cst u => exact fun _ _ _ _ _ h => h
  | mse k m o n => exact fun hb => by cases hb
  | mri k i => exact fun hb => by cases hb
theorem ES.frameB {f : Nat} {ds : List DV} {d : DV} (h0 : ES P Γ f ds [] d [] true) (h : DH) (hds : ds.all nrefB = true) : ES P Γ f ds h d h true := h0.frame (fun x hx => nrefB_ok (List.all_eq_true.1 hds x hx)) h
def scalB : DV → Bool
  | .int .. => true
  | .bool _ => true
  | .tup m f => (List.range m).all fun j => match f j with
    | .int .. => true
    | .bool _ => true
    | _ => false
  | _ => false
theorem scalB_ok {d : DV} (h : scalB d = true) : Scal d := by
  unfold scalB at h
  split at h
  · exact Scal.int _ _
  · exact Scal.bool _
  · rename_i m f
    refine Scal.tup fun j hj => ?_
    have := List.all_eq_true.1 h j (List.mem_range.2 hj)
    split at this
    · rename_i e; rw [e]; exact Scal.int _ _
    · rename_i e; rw [e]; exact Scal.bool _
    · cases this
  · cases h
def allSnap (h : DH) : List DV → List DV → Prop
  | [], [] => True
  | d :: ds, d0 :: ds0 => Snap h d d0 ∧ allSnap h ds ds0
  | _, _ => False
theorem allSnap_ok {h : DH} : ∀ {ds ds0 : List DV}, allSnap h ds ds0 → ds0.length = ds.length ∧ ∀ i, i < ds.length → Snap h (ds.getD i .any) (ds0.getD i .any)
  | [], [], _ => ⟨rfl, fun i hi => absurd hi (Nat.not_lt_zero i)⟩
  | d :: ds, d0 :: ds0, ⟨h1, h2⟩ => by
    obtain ⟨e, g⟩ := allSnap_ok h2
    refine ⟨by simp [e], fun i hi => ?_⟩
    cases i with
    | zero => exact h1
    | succ i => exact g i (by simpa using hi)
  | [], _ :: _, h => h.elim
  | _ :: _, [], h => h.elim
theorem Snap.plain {h : DH} {d : DV} (hn : nrefB d = true) : Snap h d d := Snap.nref (nrefB_ok hn)
theorem Snap.nils {h : DH} : Snap h .nils (.ints []) := fun _ _ _ _ _ _ _ hr => DLe.ints_nil _ _ _ _ (RepV.out _ (out_iff (M := fun _ => False) (fun _ hb => hb) []) hr)
theorem ES.snapB {f : Nat} {ds ds0 : List DV} {d : DV} (h0 : ES P Γ f ds0 [] d [] true) (h : DH) (hs : allSnap h ds ds0) (hd : scalB d = true) : ES P Γ f ds h d h true := ES.snap h0 h (allSnap_ok hs).1 (allSnap_ok hs).2 (scalB_ok hd)
theorem noIter_nil : noIter [] := fun _ _ h => by simp at h
theorem DLe.of_eq {d d' : DV} (h : d = d') : DLe d d' := by rw [h]; exact DLe.refl _
theorem ints_le {M : Nat → Prop} {w : World} {ρ : List Place} {v : Value} {l : List Int} (h : RepV M w (.ints l) ρ v) : l.length ≤ LB := let ⟨_, _, _, _, h, _⟩ := h; h
theorem bools_le {M : Nat → Prop} {w : World} {ρ : List Place} {v : Value} {l : List Bool} (h : RepV M w (.bools l) ρ v) : l.length ≤ LB := let ⟨_, _, _, _, h, _⟩ := h; h
theorem sl_le {M : Nat → Prop} {w : World} {ρ : List Place} {v : Value} {m n : Nat} {f : Nat → Nat → DV} (h : RepV M w (.sl m n f) ρ v) : n ≤ LB := let ⟨_, _, _, _, h, _⟩ := h; h
theorem wrC {x c : Int} (h1 : x = c) (h2 : -9223372036854775808 ≤ c) (h3 : c ≤ 9223372036854775807) : IntKind.i64.wrap x = c := by
  subst h1; rw [IntKind.wrap_i64]; omega
end
end Go.Proofs.YtekkngkphejfcaaDoor
