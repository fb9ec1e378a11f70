/- Links: without loss all is delivered, on the model. Conditions: none. -/
import Derived.Test.YtmnpndgmfmjfhaaLkSe
import Derived.Test.YtmnpndgmfmjfhaaLkV
set_option linter.unusedVariables false
set_option linter.unusedSimpArgs false
set_option maxRecDepth 8000
namespace Go.Proofs.Ytmnpndgmfmjfhaa.Den
open Go Go.RowKit
/-- Units that fit, one after the other. -/
def okU : Int → Int → List Int → List UM → Prop
  | _, _, _, [] => True
  | m, f, p, u :: r => u.m = m ∧ u.f = f ∧ 1 ≤ m ∧ m < 1000000 ∧ 0 ≤ f ∧ f < 1000000 ∧ p.length + u.d.length ≤ 4096 ∧ u.at_ = -1 ∧ (if u.last then okU (m + 1) 0 [] r else okU m (f + 1) (p ++ u.d) r)
def vsU : List Int → List UM → List (List Int)
  | _, [] => []
  | p, u :: r => if u.last then (p ++ u.d) :: vsU [] r else vsU (p ++ u.d) r
def AckOf : List UM → List AM → Prop
  | [], l => l = []
  | u :: r, l => ∃ a b, l = a ++ b ∧ a ≠ [] ∧ (∀ x ∈ a, (x.m, x.f) = nxt u) ∧ AckOf r b
theorem encR_eq {k m f : Int} {last : Bool} {d : List Int} (h : encE k last m f d.length = 0) : encR k last m f d = encB k last m f d := by unfold encR; rw [if_pos h]
/-- A data frame that fits. -/
theorem in_fit {B : LM} {u : UM} {x now : Int} (hx : 0 ≤ x ∧ x < B.up.length) (ht : timeE B now = 0) (hm : 1 ≤ u.m ∧ u.m < 1000000) (hf : 0 ≤ u.f ∧ u.f < 1000000) (hd : u.d.length ≤ 4096) :
    inE B x (encR 1 u.last u.m u.f u.d) now = 0 ∧ inM B x (encR 1 u.last u.m u.f u.d) now = addA (takeM { B with clock := now } u.m u.f u.last u.d) x ∧ inV B x (encR 1 u.last u.m u.f u.d) now = takeV B u.m u.f u.last u.d := by
  have he : encE 1 u.last u.m u.f u.d.length = 0 := by
    unfold encE
    rw [if_neg (by omega), if_neg (by omega), if_neg (by omega), if_neg (by omega)]
  rw [encR_eq he]
  obtain ⟨q1, q2, q3, q4, q5, q6, q7⟩ := dec_enc he (by omega)
  have hE : inE B x (encB 1 u.last u.m u.f u.d) now = 0 := by
    unfold inE
    rw [if_neg (by omega), if_neg (by rw [ht]; decide), q1]
  have hb : decide (lbit u.last = 1) = u.last := by cases u.last <;> rfl
  refine ⟨hE, ?_, ?_⟩
  · unfold inM
    rw [if_neg (by rw [hE]; decide), q2, if_neg (by decide), q3, q4, q5, q6, hb]
  · unfold inV
    rw [if_neg (by rw [hE]; decide), q2, if_neg (by decide), q3, q4, q5, q6, hb]
theorem in_ackf {A : LM} {m f x now : Int} (hx : 0 ≤ x ∧ x < A.up.length) (ht : timeE A now = 0) (hm : 1 ≤ m ∧ m < 10000000) (hf : 0 ≤ f ∧ f < 10000000) :
    inE A x (encR 2 false m f []) now = 0 ∧ inM A x (encR 2 false m f []) now = ackM { A with clock := now } m f ∧ inV A x (encR 2 false m f []) now = [] := by
  have he : encE 2 false m f ([] : List Int).length = 0 := by
    unfold encE
    rw [if_neg (by omega), if_neg (by simp), if_neg (by omega), if_neg (by simp)]
  rw [encR_eq he]
  obtain ⟨q1, q2, q3, q4, q5, q6, q7⟩ := dec_enc he (by omega)
  have hE : inE A x (encB 2 false m f []) now = 0 := by
    unfold inE
    rw [if_neg (by omega), if_neg (by rw [ht]; decide), q1]
  refine ⟨hE, ?_, ?_⟩
  · unfold inM
    rw [if_neg (by rw [hE]; decide), q2, if_pos rfl, q4, q5]
  · unfold inV
    rw [if_neg (by rw [hE]; decide), q2, if_pos rfl]
/-- The same unit, heard again. -/
theorem in_rep {now : Int} {u : UM} (hm : 1 ≤ u.m ∧ u.m < 1000000) (hf : 0 ≤ u.f ∧ u.f < 1000000) (hd : u.d.length ≤ 4096) : ∀ (ws : List Int) (B : LM), (∀ w ∈ ws, 0 ≤ w ∧ w < B.up.length) → timeE B now = 0 → B.clock = now → (B.msg, B.frag) = nxt u →
    inAll now B (outWs u ws) = some ({ B with acks := B.acks ++ ws.map fun w => ⟨w.toNat, B.msg, B.frag⟩ }, [])
  | [], B, _, _, _, _ => by simp [outWs, inAll]
  | x :: ws, B, hw, ht, hc, hn => by
    obtain ⟨e1, e2, e3⟩ := in_fit (B := B) (u := u) (hw x (by simp)) ht hm hf hd
    have hnf : ¬ fitB B u.m u.f u.d := by
      rintro ⟨h1, h2, _⟩
      unfold nxt at hn
      split at hn
      · simp only [Prod.mk.injEq] at hn; omega
      · simp only [Prod.mk.injEq] at hn; omega
    have hcB : ({ B with clock := now } : LM) = B := by rw [← hc]
    have e4 : takeM B u.m u.f u.last u.d = B := by unfold takeM; rw [if_neg hnf]
    have e5 : takeV B u.m u.f u.last u.d = [] := by unfold takeV; rw [if_neg fun h => hnf h.1]
    rw [hcB, e4] at e2
    rw [e5] at e3
    have ih := in_rep hm hf hd ws (addA B x) (fun w h => hw w (by simp [h])) ht hc hn
    show inAll now B ((x, encR 1 u.last u.m u.f u.d) :: outWs u ws) = _
    rw [inAll, if_neg (by simp only; rw [e1]; decide)]
    simp only
    rw [e2, e3, ih]
    simp [addA]
/-- A unit, and its copies. -/
theorem in_unit {now : Int} {u : UM} {x : Int} {ws : List Int} {B : LM} (hm : 1 ≤ u.m ∧ u.m < 1000000) (hf : 0 ≤ u.f ∧ u.f < 1000000) (hd : u.d.length ≤ 4096) (hw : ∀ w ∈ x :: ws, 0 ≤ w ∧ w < B.up.length) (ht : timeE B now = 0) (hfit : fitB B u.m u.f u.d) :
    inAll now B (outWs u (x :: ws)) = some ({ takeM { B with clock := now } u.m u.f u.last u.d with acks := B.acks ++ (x :: ws).map fun w => ⟨w.toNat, (nxt u).1, (nxt u).2⟩ }, takeV B u.m u.f u.last u.d) := by
  obtain ⟨e1, e2, e3⟩ := in_fit (B := B) (u := u) (hw x (by simp)) ht hm hf hd
  obtain ⟨t1, t2, t3, t4⟩ := timeE_zero ht
  show inAll now B ((x, encR 1 u.last u.m u.f u.d) :: outWs u ws) = _
  rw [inAll, if_neg (by simp only; rw [e1]; decide)]
  simp only
  rw [e2, e3]
  have hfit' : fitB { B with clock := now } u.m u.f u.d := hfit
  have hT : ∃ M2 : LM, takeM { B with clock := now } u.m u.f u.last u.d = M2 ∧ (M2.msg, M2.frag) = nxt u ∧ M2.acks = B.acks ∧ M2.up = B.up ∧ M2.clock = now ∧ M2.broken = B.broken := by
    refine ⟨_, rfl, ?_⟩
    unfold takeM nxt
    rw [if_pos hfit']
    split
    · exact ⟨by simp only [hfit.1], rfl, rfl, rfl, rfl⟩
    · exact ⟨by simp only [hfit.1, hfit.2.1], rfl, rfl, rfl, rfl⟩
  obtain ⟨M2, hM2, h1, h2, h3, h4, h5⟩ := hT
  rw [hM2]
  have ht2 : timeE (addA M2 x) now = 0 := by
    unfold timeE addA
    simp only [h4, h5, t4]
    rw [if_neg (by omega), if_neg (by omega)]; rfl
  rw [in_rep hm hf hd ws (addA M2 x) (fun w h => by show 0 ≤ w ∧ w < M2.up.length; rw [h3]; exact hw w (by simp [h])) ht2 (by exact h4) (by exact h1)]
  simp only [Option.map_some, List.append_nil, Option.some.injEq, Prod.mk.injEq, and_true]
  simp only [addA, h2, ← h1, List.append_assoc]
  rfl
theorem inAll_app {now : Int} : ∀ (os os' : List OM) (B : LM), inAll now B (os ++ os') = (inAll now B os).bind fun r => (inAll now r.1 os').map fun r2 => (r2.1, r.2 ++ r2.2)
  | [], os', B => by simp [inAll]
  | o :: os, os', B => by
    rw [List.cons_append, inAll, inAll]
    split
    · rfl
    · rw [inAll_app os os']
      cases inAll now (inM B o.1 o.2 now) os with
      | none => rfl
      | some r =>
        simp only [Option.map_some, Option.bind_some]
        cases inAll now r.1 os' with
        | none => rfl
        | some r2 => simp
theorem over_mem {q t : Int} {ws : List Int} : ∀ w ∈ overI q t ws, w ∈ ws := by
  intro w h
  unfold overI at h
  split at h
  · exact List.mem_of_mem_take h
  · split at h
    · exact List.mem_of_mem_drop (List.mem_of_mem_take h)
    · exact h
theorem over_len {q t : Int} {ws : List Int} : (overI q t ws).length ≤ ws.length := by
  unfold overI
  split
  · simp; omega
  · split
    · simp; omega
    · exact Nat.le_refl _
theorem vsU_cons (p : List Int) (u : UM) (r : List UM) : vsU p (u :: r) = if u.last then (p ++ u.d) :: vsU [] r else vsU (p ++ u.d) r := rfl
/-- Units sent for the first time, and heard in order. -/
theorem in_units {now q : Int} {ws : List Int} (hws : ws ≠ []) : ∀ (n : Nat) (t : Int) (us : List UM) (B : LM), 0 ≤ t → (∀ w ∈ ws, 0 ≤ w ∧ w < B.up.length) → timeE B now = 0 → okU B.msg B.frag B.part us →
    ∃ B' al, inAll now B (outUs false now q ws n t us).1 = some (B', vsU B.part (us.take n)) ∧ B'.up = B.up ∧ B'.us = B.us ∧ B'.timeout = B.timeout ∧ timeE B' now = 0 ∧ B'.acks = B.acks ++ al ∧ al.length = (outUs false now q ws n t us).1.length ∧ AckOf (us.take n) al ∧ okU B'.msg B'.frag B'.part (us.drop n) ∧ (outUs false now q ws n t us).1.length ≤ n * ws.length ∧ (∀ x ∈ al, 1 ≤ x.m ∧ x.m < 10000000 ∧ 0 ≤ x.f ∧ x.f < 10000000 ∧ x.w < B.up.length) ∧ vsU B.part us = vsU B.part (us.take n) ++ vsU B'.part (us.drop n)
  | 0, t, us, B, _, _, ht, hok => ⟨B, [], rfl, rfl, rfl, rfl, ht, by simp, rfl, rfl, hok, by simp [outUs], by simp, rfl⟩
  | n + 1, t, [], B, _, _, ht, hok => ⟨B, [], rfl, rfl, rfl, rfl, ht, by simp, rfl, rfl, hok, by simp [outUs], by simp, rfl⟩
  | n + 1, t, u :: r, B, ht0, hw, ht, hok => by
    obtain ⟨h1, h2, h3, h4, h5, h6, h7, h8, h9⟩ := hok
    have hc : ¬ ((!false && decide (0 ≤ u.at_)) = true) := by rw [h8]; decide
    have hov := overI_ne (q := q) hws ht0
    obtain ⟨x, xs, hx⟩ : ∃ x xs, overI q t ws = x :: xs := by
      cases h : overI q t ws with
      | nil => exact absurd h hov
      | cons x xs => exact ⟨x, xs, rfl⟩
    have hxw : ∀ w ∈ x :: xs, 0 ≤ w ∧ w < B.up.length := fun w h => hw w (over_mem w (by rw [hx]; exact h))
    have hfit : fitB B u.m u.f u.d := ⟨h1, h2, h7⟩
    have hu := in_unit (now := now) (u := u) (x := x) (ws := xs) (B := B) (by omega) (by omega) (by omega) hxw ht hfit
    obtain ⟨t1, t2, t3, t4⟩ := timeE_zero ht
    have hfit' : fitB { B with clock := now } u.m u.f u.d := hfit
    generalize hB1 : ({ takeM { B with clock := now } u.m u.f u.last u.d with acks := B.acks ++ (x :: xs).map fun w => ⟨w.toNat, (nxt u).1, (nxt u).2⟩ } : LM) = B1 at hu
    have f1 : B1.up = B.up ∧ B1.us = B.us ∧ B1.timeout = B.timeout ∧ B1.clock = now ∧ B1.broken = B.broken ∧ B1.acks = B.acks ++ ((x :: xs).map fun w => ⟨w.toNat, (nxt u).1, (nxt u).2⟩) ∧ okU B1.msg B1.frag B1.part r ∧ (∀ r', takeV B u.m u.f u.last u.d ++ vsU B1.part r' = vsU B.part (u :: r')) ∧ B1.done = B.done := by
      rw [← hB1]
      unfold takeM takeV
      rw [if_pos hfit']
      cases hl : u.last with
      | true =>
        rw [hl] at h9
        refine ⟨rfl, rfl, rfl, rfl, rfl, rfl, h9, fun r' => ?_, rfl⟩
        rw [if_pos ⟨hfit, rfl⟩, vsU_cons, hl, if_pos rfl]; rfl
      | false =>
        rw [hl] at h9
        refine ⟨rfl, rfl, rfl, rfl, rfl, rfl, h9, fun r' => ?_, rfl⟩
        rw [if_neg (by simp), vsU_cons, hl, if_neg (by simp)]; rfl
    obtain ⟨g1, g2, g3, g4, g5, g6, g7, g8, g9⟩ := f1
    have ht1 : timeE B1 now = 0 := by
      unfold timeE
      rw [g4, g5, t4, if_neg (by omega), if_neg (by omega)]; rfl
    have hoT := overT_le q t
    obtain ⟨B', al, i1, i2, i3, i4, i5, i6, i7, i8, i9, i10, i11, i12⟩ := in_units (q := q) hws n (overT q t) r B1 (by omega) (by rw [g1]; exact hw) ht1 g7
    have eo : (outUs false now q ws (n + 1) t (u :: r)).1 = outWs u (x :: xs) ++ (outUs false now q ws n (overT q t) r).1 := by
      rw [outUs, if_neg hc, hx]
    have hol : (outWs u (x :: xs)).length = (x :: xs).length := by simp [outWs]
    have hle : (x :: xs).length ≤ ws.length := by rw [← hx]; exact over_len
    refine ⟨B', ((x :: xs).map fun w => ⟨w.toNat, (nxt u).1, (nxt u).2⟩) ++ al, ?_, by rw [i2, g1], by rw [i3, g2], by rw [i4, g3], i5, by rw [i6, g6, List.append_assoc], ?_, ?_, i9, ?_, ?_, ?_⟩
    · rw [eo, inAll_app, hu]
      simp only [Option.bind_some, i1, Option.map_some]
      rw [g8]; rfl
    · rw [eo, List.length_append, List.length_append, i7, hol]; simp
    · exact ⟨_, al, rfl, by simp, by intro y hy; obtain ⟨z, _, rfl⟩ := List.mem_map.1 hy; rfl, i8⟩
    · rw [eo, List.length_append, hol, Nat.add_mul]; omega
    · intro y hy
      rcases List.mem_append.1 hy with hy | hy
      · obtain ⟨z, hz, rfl⟩ := List.mem_map.1 hy
        have := hxw z hz
        have hn : 1 ≤ (nxt u).1 ∧ (nxt u).1 < 10000000 ∧ 0 ≤ (nxt u).2 ∧ (nxt u).2 < 10000000 := by
          unfold nxt; split
          · simp only; omega
          · simp only; omega
        simp only; omega
      · have := i11 y hy; rw [g1] at this; exact this
    · show vsU B.part (u :: r) = vsU B.part (u :: r.take n) ++ vsU B'.part (r.drop n)
      rw [← g8, ← g8, i12, List.append_assoc]
/-! ### what the sender hears -/
def ltU (a b : Int × Int) : Prop := a.1 < b.1 ∨ a.1 = b.1 ∧ a.2 < b.2
theorem nxt_lt (u : UM) : ltU (u.m, u.f) (nxt u) := by
  unfold nxt; split
  · exact .inl (show u.m < u.m + 1 by omega)
  · exact .inr ⟨rfl, show u.f < u.f + 1 by omega⟩
theorem chn_ge : ∀ {r : List UM} {u : UM}, Chn (u :: r) → ∀ v ∈ r, ¬ ltU (v.m, v.f) (nxt u)
  | [], u, _, v, h => by simp at h
  | w :: r, u, hc, v, h => by
    have h1 : nxt u = (w.m, w.f) := hc.1
    rcases List.mem_cons.1 h with rfl | h
    · rw [h1]; unfold ltU; simp
    · have h2 := chn_ge hc.2 v h
      have h3 := nxt_lt w
      rw [h1]
      unfold ltU at h2 h3 ⊢
      simp only at h2 h3 ⊢
      omega
theorem ackP_iff {fm ff : Int} {u : UM} (h1 : 0 ≤ u.m ∧ u.m < 2 ^ 62) (h2 : 0 ≤ u.f ∧ u.f < 2 ^ 62) : ackP fm ff u = true ↔ (fm, ff) = nxt u := by
  unfold ackP nxt
  rw [wrap64_id (by omega) (by omega), wrap64_id (by omega) (by omega)]
  split <;> simp
theorem ack_none {A : LM} {fm ff : Int} (h : ∀ u ∈ A.us, ackP fm ff u = false) : ackM A fm ff = A := by
  unfold ackM
  have : A.us.findIdx? (ackP fm ff) = none := by
    rw [List.findIdx?_eq_none_iff]; intro u hu; exact h u hu
  rw [this]
theorem ack_first {A : LM} {u : UM} {r : List UM} {fm ff : Int} (hu : A.us = u :: r) (h : ackP fm ff u = true) (ha : 0 ≤ u.at_) : ackM A fm ff = { A with done := lastDone A.done [u], us := r, repeats := 0 } := by
  unfold ackM
  have : A.us.findIdx? (ackP fm ff) = some 0 := by rw [hu, List.findIdx?_cons, h]; rfl
  rw [this, hu]
  simp only [List.getElem?_cons_zero]
  rw [if_neg (by omega)]
  rfl
theorem out_wire {up : List Bool} {ws : List Int} {a : AM} (hw : ∀ w ∈ ws, 0 ≤ w ∧ w < up.length) (hne : ws ≠ []) (ha : a.w < up.length) : 0 ≤ (outAck up ws a).1 ∧ (outAck up ws a).1 < up.length := by
  unfold outAck
  simp only
  split
  · omega
  · cases ws with
    | nil => exact absurd rfl hne
    | cons w r => exact hw w (by simp)
theorem in_dup {now : Int} {up : List Bool} {ws : List Int} (hne : ws ≠ []) : ∀ (a : List AM) (A : LM), A.up = up → (∀ w ∈ ws, 0 ≤ w ∧ w < up.length) → (∀ x ∈ a, 1 ≤ x.m ∧ x.m < 10000000 ∧ 0 ≤ x.f ∧ x.f < 10000000 ∧ x.w < up.length) → timeE A now = 0 → A.clock = now → (∀ x ∈ a, ∀ v ∈ A.us, ackP x.m x.f v = false) →
    inAll now A (a.map (outAck up ws)) = some (A, [])
  | [], A, _, _, _, _, _, _ => rfl
  | x :: a, A, hup, hw, hx, ht, hc, hv => by
    subst hup
    have h1 := hx x (by simp)
    obtain ⟨e1, e2, e3⟩ := in_ackf (A := A) (m := x.m) (f := x.f) (out_wire hw hne h1.2.2.2.2) ht ⟨h1.1, h1.2.1⟩ ⟨h1.2.2.1, h1.2.2.2.1⟩
    have hcA : ({ A with clock := now } : LM) = A := by rw [← hc]
    rw [hcA, ack_none (hv x (by simp))] at e2
    rw [List.map_cons, inAll]
    have e0 : (outAck A.up ws x).2 = encR 2 false x.m x.f [] := rfl
    rw [e0, e1, e2, e3, if_neg (by decide), in_dup hne a A rfl hw (fun y hy => hx y (by simp [hy])) ht hc (fun y hy => hv y (by simp [hy]))]
    rfl
theorem lastDone_cons (d : Int) (u : UM) (r : List UM) : lastDone d (u :: r) = lastDone (lastDone d [u]) r := rfl
/-- All units that were heard are taken out. -/
theorem in_acks {now : Int} {up : List Bool} {ws : List Int} (hne : ws ≠ []) (hw : ∀ w ∈ ws, 0 ≤ w ∧ w < up.length) : ∀ (us1 rest : List UM) (al : List AM) (A : LM), A.up = up → AckOf us1 al → A.us = us1 ++ rest → Chn A.us → (∀ u ∈ A.us, 1 ≤ u.m ∧ u.m < 1000000 ∧ 0 ≤ u.f ∧ u.f < 1000000) → (∀ u ∈ us1, 0 ≤ u.at_) →
    (∀ x ∈ al, 1 ≤ x.m ∧ x.m < 10000000 ∧ 0 ≤ x.f ∧ x.f < 10000000 ∧ x.w < up.length) → timeE A now = 0 → A.clock = now →
    ∃ A', inAll now A (al.map (outAck up ws)) = some (A', []) ∧ A'.us = rest ∧ A'.done = lastDone A.done us1 ∧ A'.up = A.up ∧ A'.timeout = A.timeout ∧ A'.acks = A.acks ∧ timeE A' now = 0 ∧ A'.turn = A.turn
  | [], rest, al, A, hup, hal, hus, _, _, _, _, ht, _ => by
    unfold AckOf at hal; subst hal
    exact ⟨A, rfl, hus, rfl, rfl, rfl, rfl, ht, rfl⟩
  | u :: r, rest, al, A, hup, hal, hus, hch, hb, hat, hx, ht, hc => by
    obtain ⟨a, b, rfl, hane, ha, hb2⟩ := hal
    obtain ⟨x, a', rfl⟩ : ∃ x a', a = x :: a' := by
      cases a with
      | nil => exact absurd rfl hane
      | cons x a' => exact ⟨x, a', rfl⟩
    have hx1 := hx x (by simp)
    have hxn := ha x (by simp)
    have hus' : A.us = u :: (r ++ rest) := hus
    have hub := hb u (by rw [hus']; simp)
    obtain ⟨e1, e2, e3⟩ := in_ackf (A := A) (m := x.m) (f := x.f) (x := (outAck up ws x).1) (by rw [hup]; exact out_wire hw hne hx1.2.2.2.2) ht ⟨hx1.1, hx1.2.1⟩ ⟨hx1.2.2.1, hx1.2.2.2.1⟩
    have hcA : ({ A with clock := now } : LM) = A := by rw [← hc]
    have hp : ackP x.m x.f u = true := (ackP_iff (by omega) (by omega)).2 hxn
    rw [hcA, ack_first hus' hp (hat u (by simp))] at e2
    generalize hA1 : ({ A with done := lastDone A.done [u], us := r ++ rest, repeats := 0 } : LM) = A1 at e2
    have f1 : A1.up = A.up ∧ A1.us = r ++ rest ∧ A1.done = lastDone A.done [u] ∧ A1.timeout = A.timeout ∧ A1.acks = A.acks ∧ A1.clock = A.clock ∧ A1.broken = A.broken ∧ A1.turn = A.turn := by rw [← hA1]; exact ⟨rfl, rfl, rfl, rfl, rfl, rfl, rfl, rfl⟩
    obtain ⟨g1, g2, g3, g4, g5, g6, g7, g8⟩ := f1
    have ht1 : timeE A1 now = 0 := by unfold timeE at ht ⊢; rw [g6, g7]; exact ht
    have hchT : Chn (r ++ rest) := by rw [hus'] at hch; exact hch.2
    have hno : ∀ y ∈ a', ∀ v ∈ A1.us, ackP y.m y.f v = false := by
      intro y hy v hv
      rw [g2] at hv
      have hvb := hb v (by rw [hus']; exact List.mem_cons_of_mem _ hv)
      rw [hus'] at hch
      have h1 := chn_ge hch v hv
      have h2 := nxt_lt v
      have h3 := ha y (by simp [hy])
      cases hq : ackP y.m y.f v with
      | false => rfl
      | true =>
        have h4 := (ackP_iff (by omega) (by omega)).1 hq
        rw [h3] at h4
        rw [h4] at h1
        exact absurd h2 h1
    have hd := in_dup (now := now) hne a' A1 (g1.trans hup) hw (fun y hy => hx y (by simp [hy])) ht1 (g6.trans hc) hno
    obtain ⟨A', i1, i2, i3, i4, i5, i6, i7, i8⟩ := in_acks hne hw r rest b A1 (g1.trans hup) hb2 g2 (by rw [g2]; exact hchT) (fun v hv => hb v (by rw [hus']; rw [g2] at hv; exact List.mem_cons_of_mem _ hv)) (fun v hv => hat v (by simp [hv])) (fun y hy => hx y (by simp [hy])) ht1 (g6.trans hc)
    refine ⟨A', ?_, i2, by rw [i3, g3, ← lastDone_cons], i4.trans g1, i5.trans g4, i6.trans g5, i7, i8.trans g8⟩
    rw [List.cons_append, List.map_cons, inAll]
    have e0 : (outAck up ws x).2 = encR 2 false x.m x.f [] := rfl
    rw [e0, e1, e2, e3, if_neg (by decide), List.map_append, inAll_app, hd]
    simp only [Option.bind_some, i1, Option.map_some]
    rfl
theorem useI_mem : ∀ (l : List Bool) (i : Nat), ∀ w ∈ useI i l, (i : Int) ≤ w ∧ w < (i : Int) + l.length
  | [], i, w, h => by simp [useI] at h
  | b :: r, i, w, h => by
    rw [useI] at h
    simp only [List.length_cons]
    split at h
    · rcases List.mem_cons.1 h with rfl | h
      · omega
      · have := useI_mem r (i + 1) w h; omega
    · have := useI_mem r (i + 1) w h; omega
theorem outUs_first {now q : Int} {ws : List Int} : ∀ (n : Nat) (t : Int) (us : List UM), (∀ u ∈ us, u.at_ = -1) → (outUs false now q ws n t us).2.1 = (us.take n).map (fun u => { u with at_ := now }) ++ us.drop n
  | 0, t, us, _ => by simp [outUs]
  | n + 1, t, [], _ => rfl
  | n + 1, t, v :: r, h => by
    have h1 := h v (by simp)
    unfold outUs
    rw [if_neg (by rw [h1]; decide)]
    simp only [List.take_succ_cons, List.drop_succ_cons, List.map_cons, List.cons_append]
    rw [outUs_first n _ r fun u hu => h u (by simp [hu])]
theorem ackOf_map {now : Int} : ∀ (us : List UM) (al : List AM), AckOf us al → AckOf (us.map (fun u => { u with at_ := now })) al
  | [], al, h => h
  | u :: r, al, ⟨a, b, h1, h2, h3, h4⟩ => ⟨a, b, h1, h2, h3, ackOf_map r b h4⟩
theorem lastDone_map {now : Int} : ∀ (us : List UM) (d : Int), lastDone d (us.map (fun u => { u with at_ := now })) = lastDone d us
  | [], d => rfl
  | u :: r, d => by rw [List.map_cons, lastDone_cons, lastDone_cons _ u]; exact lastDone_map r _
theorem okU_at : ∀ {m f : Int} {p : List Int} {us : List UM}, okU m f p us → ∀ u ∈ us, u.at_ = -1 ∧ 1 ≤ u.m ∧ u.m < 1000000 ∧ 0 ≤ u.f ∧ u.f < 1000000
  | m, f, p, [], _, u, h => by simp at h
  | m, f, p, v :: r, ⟨h1, h2, h3, h4, h5, h6, h7, h8, h9⟩, u, h => by
    rcases List.mem_cons.1 h with rfl | h
    · exact ⟨h8, by omega, by omega, by omega, by omega⟩
    · split at h9
      · exact okU_at h9 u h
      · exact okU_at h9 u h
theorem okU_chn : ∀ {us : List UM} {m f : Int} {p : List Int}, okU m f p us → Chn us
  | [], m, f, p, _ => trivial
  | [v], m, f, p, _ => ⟨trivial, trivial⟩
  | v :: w :: r, m, f, p, ⟨h1, h2, h3, h4, h5, h6, h7, h8, h9⟩ => by
    split at h9
    · rename_i hl
      refine ⟨?_, okU_chn h9⟩
      show nxt v = (w.m, w.f)
      unfold nxt; rw [if_pos hl, h9.1, h9.2.1, h1]
    · rename_i hl
      refine ⟨?_, okU_chn h9⟩
      show nxt v = (w.m, w.f)
      unfold nxt; rw [if_neg hl, h9.1, h9.2.1, h1, h2]
/-- A talk without loss, between two rounds. -/
structure De (up : List Bool) (A B : LM) (c : Int) : Prop where
  aup : A.up = up
  bup : B.up = up
  ul : up.length ≤ 3
  une : useI 0 up ≠ []
  at_ : timeE A c = 0
  bt : timeE B c = 0
  atu : 0 ≤ A.turn
  aa : A.acks = []
  ba : B.acks = []
  bus : B.us = []
  ok : okU B.msg B.frag B.part A.us
theorem againB_nil {M : LM} {now : Int} (h : ∀ u ∈ M.us, u.at_ = -1) : againB M now = false := by
  unfold againB
  split
  · rfl
  · rename_i u r hu
    have := h u (by rw [hu]; simp)
    rw [this]; rfl
theorem outE_zero {M : LM} {now : Int} (h : ∀ u ∈ M.us, u.at_ = -1) (ht : timeE M now = 0) : outE M now = 0 := by
  unfold outE
  rw [if_neg (by rw [ht]; decide), againB_nil h, if_neg (by simp)]
theorem round {up : List Bool} {A B : LM} {c : Int} (h : De up A B c) (hc : c < 1099511627776) : ∃ A1 B1 A2 B2, halfF c A B = some (A1, B1, vsU B.part (A.us.take 8)) ∧ halfF c B1 A1 = some (B2, A2, []) ∧ De up A2 B2 (c + 1) ∧ A2.us = A.us.drop 8 ∧ A2.done = lastDone A.done (A.us.take 8) ∧ vsU B.part A.us = vsU B.part (A.us.take 8) ++ vsU B2.part (A.us.drop 8) := by
  have hall := okU_at h.ok
  have hat : ∀ u ∈ A.us, u.at_ = -1 := fun u hu => (hall u hu).1
  obtain ⟨t1, t2, t3, t4⟩ := timeE_zero h.at_
  have hw : ∀ w ∈ useI 0 up, 0 ≤ w ∧ w < up.length := fun w hw => by have := useI_mem up 0 w hw; omega
  have hwl : (useI 0 up).length ≤ 3 := Nat.le_trans (useI_le up 0) h.ul
  obtain ⟨B1, al, i1, i2, i3, i4, i5, i6, i7, i8, i9, i10, i11, i12⟩ := in_units (now := c) (q := A.quality) (ws := useI 0 up) h.une 8 A.turn A.us B h.atu (by rw [h.bup]; exact hw) h.bt h.ok
  have eE := outE_zero hat h.at_
  have eV : outV A c = (outUs false c A.quality (useI 0 up) 8 A.turn A.us).1 := by
    unfold outV
    rw [if_neg (by rw [eE]; decide), h.aup, if_neg h.une, h.aa, againB_nil hat]
    rfl
  have eM : outM A c = { A with clock := c, acks := [], repeats := A.repeats, us := (A.us.take 8).map (fun u => { u with at_ := c }) ++ A.us.drop 8, turn := (outUs false c A.quality (useI 0 up) 8 A.turn A.us).2.2 } := by
    unfold outM
    rw [if_neg (by rw [h.at_]; decide), againB_nil hat, if_neg (by simp), h.aup, if_neg h.une, outUs_first _ _ _ hat]
    rfl
  have hlen : (outV A c).length ≤ 24 := by rw [eV]; have := Nat.mul_le_mul_left 8 hwl; omega
  have hh1 : halfF c A B = some (outM A c, B1, vsU B.part (A.us.take 8)) := by
    unfold halfF
    rw [if_neg (by rw [eE]; omega), eV, i1]; rfl
  have b1a : B1.acks = al := by rw [i6, h.ba]; rfl
  have b1u : B1.us = [] := by rw [i3, h.bus]
  have hbt : ∀ u ∈ B1.us, u.at_ = -1 := by rw [b1u]; intro u hu; simp at hu
  have eE2 := outE_zero hbt i5
  have eV2 : outV B1 c = al.map (outAck up (useI 0 up)) := by
    unfold outV
    rw [if_neg (by rw [eE2]; decide), i2, h.bup, if_neg h.une, b1a, b1u]
    simp [outUs]
  have eM2 : outM B1 c = { B1 with clock := c, acks := [], repeats := B1.repeats, us := [], turn := B1.turn } := by
    unfold outM
    rw [if_neg (by rw [i5]; decide), againB_nil hbt, if_neg (by simp), i2, h.bup, if_neg h.une, b1u]
    rfl
  have hlen2 : (outV B1 c).length ≤ 24 := by rw [eV2, List.length_map, i7]; rw [eV] at hlen; exact hlen
  have hkey : (outM A c).us.map key = A.us.map key := by rw [eM]; simp only; rw [← outUs_first (now := c) (q := A.quality) (ws := useI 0 up) 8 A.turn A.us hat, outUs_key]
  have hmem : ∀ v ∈ (outM A c).us, 1 ≤ v.m ∧ v.m < 1000000 ∧ 0 ≤ v.f ∧ v.f < 1000000 := by
    intro v hv
    rw [eM] at hv
    rcases List.mem_append.1 hv with hv | hv
    · obtain ⟨u, hu, rfl⟩ := List.mem_map.1 hv
      exact (hall u (List.mem_of_mem_take hu)).2
    · exact (hall v (List.mem_of_mem_drop hv)).2
  obtain ⟨A2, j1, j2, j3, j4, j5, j6, j7, j8⟩ := in_acks (now := c) (up := up) (ws := useI 0 up) h.une hw ((A.us.take 8).map (fun u => { u with at_ := c })) (A.us.drop 8) al (outM A c) (by rw [eM]; exact h.aup) (ackOf_map _ _ i8) (by rw [eM]) (chn_key hkey (okU_chn h.ok)) hmem
    (by intro u hu; obtain ⟨v, hv, rfl⟩ := List.mem_map.1 hu; exact t1) (by rw [h.bup] at i11; exact i11) (by rw [eM]; unfold timeE; simp only [t4]; rw [if_neg (by omega), if_neg (by omega)]; rfl) (by rw [eM])
  have hh2 : halfF c B1 (outM A c) = some (outM B1 c, A2, []) := by
    unfold halfF
    rw [if_neg (by rw [eE2]; omega), eV2, j1]; rfl
  obtain ⟨s1, s2, s3, s4⟩ := timeE_zero j7
  obtain ⟨r1, r2, r3, r4⟩ := timeE_zero i5
  have hturn := outUs_turn false c A.quality (useI 0 up) 8 A.turn A.us
  have hT2 : 0 ≤ A2.turn := by rw [j8, eM]; have := h.atu; simp only; omega
  refine ⟨outM A c, B1, A2, outM B1 c, hh1, hh2, ⟨by rw [j4, eM]; exact h.aup, by rw [eM2]; exact i2.trans h.bup, h.ul, h.une, ?_, ?_, hT2, by rw [j6, eM], by rw [eM2], by rw [eM2], ?_⟩, j2, by rw [j3, lastDone_map, eM], ?_⟩
  · unfold timeE; rw [if_neg (by omega), if_neg (by omega), s4]; rfl
  · rw [eM2]; unfold timeE; simp only [r4]; rw [if_neg (by omega), if_neg (by omega)]; rfl
  · rw [eM2, j2]; exact i9
  · rw [eM2]; exact i12
theorem settle_law {up : List Bool} : ∀ (d : Nat) (A B : LM) (c : Int) (v0 v1 : List (List Int)), De up A B c → c + d ≤ 1099511627776 → A.us.length ≤ 8 * d →
    ∃ A' B' c', settleF d A B c v0 v1 = some (A', B', c', v0, v1 ++ vsU B.part A.us) ∧ A'.us = [] ∧ A'.acks = [] ∧ A'.broken = false ∧ A'.done = lastDone A.done A.us
  | 0, A, B, c, v0, v1, h, _, hl => by
    have : A.us = [] := List.length_eq_zero_iff.1 (by omega)
    refine ⟨A, B, c, ?_, this, h.aa, (timeE_zero h.at_).2.2.2, by rw [this]; rfl⟩
    rw [this]; simp [settleF, vsU]
  | d + 1, A, B, c, v0, v1, h, hc, hl => by
    obtain ⟨A1, B1, A2, B2, h1, h2, h3, h4, h5, h6⟩ := round h (by omega)
    obtain ⟨A', B', c', i1, i2, i3, i4, i5⟩ := settle_law d A2 B2 (c + 1) v0 (v1 ++ vsU B.part (A.us.take 8)) h3 (by omega) (by rw [h4, List.length_drop]; omega)
    refine ⟨A', B', c', ?_, i2, i3, i4, ?_⟩
    · rw [settleF, h1]
      simp only [Option.bind_some, h2, List.append_nil]
      rw [i1, h6, h4, List.append_assoc]
    · rw [i5, h5, h4]
      conv => rhs; rw [← List.take_append_drop 8 A.us]
      unfold lastDone
      rw [List.foldl_append]
/-! ### what is sent -/
def usOf (sz : Nat) : Int → List (List Int) → List UM
  | _, [] => []
  | m, d :: ds => addL m 0 (pcs (d.length + 1) sz d) ++ usOf sz (m + 1) ds
theorem usOf_app (sz : Nat) (d : List Int) : ∀ (m : Int) (ds : List (List Int)), usOf sz m (ds ++ [d]) = usOf sz m ds ++ addL (m + ds.length) 0 (pcs (d.length + 1) sz d)
  | m, [] => by simp [usOf]
  | m, e :: ds => by
    rw [List.cons_append, usOf, usOf, usOf_app sz d (m + 1) ds, List.append_assoc]
    congr 3; simp only [List.length_cons]; omega
theorem pcs_flat : ∀ (n sz : Nat) (d : List Int), 1 ≤ sz → d.length ≤ n → (pcs (n + 1) sz d).flatten = d
  | n, sz, d, h1, h2 => by
    unfold pcs
    split
    · simp
    · rename_i h
      cases n with
      | zero => omega
      | succ n =>
        rw [List.flatten_cons, pcs_flat n sz (d.drop sz) h1 (by rw [List.length_drop]; omega), List.take_append_drop]
theorem pcs_count : ∀ (n : Nat) (sz : Nat) (d : List Int), 8 ≤ sz → 8 * (pcs n sz d).length ≤ d.length + 8
  | 0, sz, d, _ => by simp [pcs]
  | n + 1, sz, d, h => by
    unfold pcs
    split
    · simp
    · rename_i h1
      have := pcs_count n sz (d.drop sz) h
      rw [List.length_drop] at this
      simp only [List.length_cons]; omega
theorem ok_addL {m : Int} (hm : 1 ≤ m ∧ m < 1000000) {rest : List UM} : ∀ (ps : List (List Int)) (k : Nat) (p : List Int) (x : Int), ps ≠ [] → p.length + ps.flatten.length ≤ 4096 → k + ps.length < 1000000 → okU (m + 1) 0 [] rest →
    okU m k p (addL m k ps ++ rest) ∧ vsU p (addL m k ps ++ rest) = (p ++ ps.flatten) :: vsU [] rest ∧ lastDone x (addL m k ps ++ rest) = lastDone m rest
  | [], k, p, x, h, _, _, _ => absurd rfl h
  | [q], k, p, x, _, h1, h2, h3 => by
    simp only [List.flatten_cons, List.flatten_nil, List.append_nil] at h1 ⊢
    simp only [List.length_cons, List.length_nil] at h2
    refine ⟨⟨rfl, rfl, hm.1, hm.2, by omega, by omega, h1, rfl, ?_⟩, ?_, ?_⟩
    · exact h3
    · simp [addL, vsU]
    · rfl
  | q :: q' :: r, k, p, x, _, h1, h2, h3 => by
    have hl : (q :: q' :: r).flatten.length = q.length + (q' :: r).flatten.length := by simp
    simp only [List.length_cons] at h2
    obtain ⟨i1, i2, i3⟩ := ok_addL hm (q' :: r) (k + 1) (p ++ q) x (by simp) (by rw [List.length_append]; omega) (by simp only [List.length_cons]; omega) h3
    have e : addL m k (q :: q' :: r) ++ rest = ⟨false, m, (k : Int), q, -1⟩ :: (addL m (k + 1) (q' :: r) ++ rest) := rfl
    rw [e]
    have ek : ((k + 1 : Nat) : Int) = (k : Int) + 1 := by omega
    rw [ek] at i1
    refine ⟨⟨rfl, rfl, hm.1, hm.2, by omega, by omega, by simp only; omega, rfl, ?_⟩, ?_, ?_⟩
    · exact i1
    · rw [vsU_cons]
      simp only [Bool.false_eq_true, if_false]
      rw [i2]; simp
    · rw [lastDone_cons]; exact i3
theorem usOf_law {sz : Nat} (hsz : 8 ≤ sz) : ∀ (ds : List (List Int)) (m : Int), 1 ≤ m → m + ds.length < 1000 → (∀ d ∈ ds, d.length ≤ 200) →
    okU m 0 [] (usOf sz m ds) ∧ vsU [] (usOf sz m ds) = ds ∧ lastDone (m - 1) (usOf sz m ds) = m - 1 + ds.length ∧ (usOf sz m ds).length ≤ 26 * ds.length
  | [], m, _, _, _ => ⟨trivial, rfl, by simp [usOf, lastDone], by simp [usOf]⟩
  | d :: ds, m, h1, h2, h3 => by
    simp only [List.length_cons] at h2
    have hd := h3 d (by simp)
    obtain ⟨i1, i2, i3, i4⟩ := usOf_law hsz ds (m + 1) (by omega) (by omega) fun e he => h3 e (by simp [he])
    have hf := pcs_flat d.length sz d (by omega) (Nat.le_refl _)
    have hc := pcs_count (d.length + 1) sz d hsz
    obtain ⟨j1, j2, j3⟩ := ok_addL (m := m) (rest := usOf sz (m + 1) ds) (by omega) (pcs (d.length + 1) sz d) 0 [] (m - 1) (pcs_ne _ _ _) (by rw [hf]; simp; omega) (by omega) i1
    refine ⟨j1, by rw [usOf, j2, hf, i2]; simp, ?_, ?_⟩
    · rw [usOf, j3]
      have e : m + 1 - 1 = m := by omega
      rw [e] at i3
      rw [i3]; simp only [List.length_cons]; omega
    · rw [usOf, List.length_append, addL_length]; simp only [List.length_cons]; omega
end Go.Proofs.Ytmnpndgmfmjfhaa.Den
