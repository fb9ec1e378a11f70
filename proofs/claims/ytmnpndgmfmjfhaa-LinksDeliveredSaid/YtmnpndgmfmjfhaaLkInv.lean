/- Links: what a link keeps to, whatever is called. Conditions: none. -/
import Derived.Test.YtmnpndgmfmjfhaaLkIn
set_option linter.unusedVariables false
set_option linter.unusedSimpArgs false
set_option maxRecDepth 8000
namespace Go.Proofs.Ytmnpndgmfmjfhaa.Den
open Go Go.RowKit
theorem encE_zero' {k : Int} {last : Bool} {m f : Int} {n : Nat} (h : encE k last m f n = 0) : (k = 1 ∨ k = 2 ∧ last = false ∧ n = 0) ∧ 1 ≤ m ∧ 0 ≤ f ∧ f ≤ 2147483647 ∧ n ≤ 4096 := by
  unfold encE at h
  split at h
  · cases h
  · split at h
    · cases h
    · split at h
      · cases h
      · split at h
        · cases h
        · rename_i h1 h2 h3 h4
          refine ⟨?_, by omega, by omega, by omega, by omega⟩
          by_cases hk : k = 1
          · exact .inl hk
          · have hk2 : k = 2 := by omega
            refine .inr ⟨hk2, ?_, ?_⟩
            · cases last with
              | false => rfl
              | true => exact absurd ⟨hk2, .inl rfl⟩ h2
            · by_cases hn : 0 < n
              · exact absurd ⟨hk2, .inr hn⟩ h2
              · omega
def nxt (u : UM) : Int × Int := if u.last then (u.m + 1, 0) else (u.m, u.f + 1)
def Chn : List UM → Prop
  | [] => True
  | u :: r => (match r with | [] => True | v :: _ => nxt u = (v.m, v.f)) ∧ Chn r
def Pre : List UM → Prop
  | [] => True
  | u :: r => (u.at_ < 0 → ∀ v ∈ r, v.at_ < 0) ∧ Pre r
def key (u : UM) : Bool × Int × Int × List Int := (u.last, u.m, u.f, u.d)
theorem chn_key : ∀ {us us' : List UM}, us'.map key = us.map key → Chn us → Chn us'
  | [], [], _, _ => trivial
  | [], _ :: _, h, _ => by simp at h
  | _ :: _, [], h, _ => by simp at h
  | u :: r, u' :: r', h, hc => by
    simp only [List.map_cons, List.cons.injEq] at h
    refine ⟨?_, chn_key h.2 hc.2⟩
    have hk := h.1
    simp only [key, Prod.mk.injEq] at hk
    cases r' with
    | nil => trivial
    | cons v' r' =>
      cases r with
      | nil => simp at h
      | cons v r =>
        have h2 := h.2
        simp only [List.map_cons, List.cons.injEq, key, Prod.mk.injEq] at h2
        have h3 : nxt u = (v.m, v.f) := hc.1
        show nxt u' = (v'.m, v'.f)
        rw [h2.1.2.1, h2.1.2.2.1, ← h3]
        unfold nxt
        rw [hk.1, hk.2.1, hk.2.2.1]
theorem chn_drop : ∀ {us : List UM} (n : Nat), Chn us → Chn (us.drop n)
  | us, 0, h => h
  | [], n + 1, h => by simp; trivial
  | u :: r, n + 1, h => chn_drop (us := r) n h.2
theorem pre_drop : ∀ {us : List UM} (n : Nat), Pre us → Pre (us.drop n)
  | us, 0, h => h
  | [], n + 1, h => by simp; trivial
  | u :: r, n + 1, h => pre_drop (us := r) n h.2
theorem chn_append : ∀ {us vs : List UM}, Chn us → Chn vs → (∀ u v, us.getLast? = some u → vs.head? = some v → nxt u = (v.m, v.f)) → Chn (us ++ vs)
  | [], vs, _, h, _ => h
  | [u], vs, _, h, hl => by
    refine ⟨?_, h⟩
    cases vs with
    | nil => trivial
    | cons v vs => exact hl u v rfl rfl
  | u :: u' :: r, vs, h, h2, hl => ⟨h.1, chn_append (us := u' :: r) h.2 h2 (fun a b ha hb => hl a b (by rw [List.getLast?_cons_cons]; exact ha) hb)⟩
theorem pre_append : ∀ {us vs : List UM}, Pre us → (∀ v ∈ vs, v.at_ < 0) → Pre (us ++ vs)
  | [], [], _, _ => trivial
  | [], v :: vs, _, h => ⟨fun _ x hx => h x (by simp [hx]), pre_append (us := []) (vs := vs) trivial fun x hx => h x (by simp [hx])⟩
  | u :: r, vs, hp, h => ⟨fun hu v hv => (List.mem_append.1 hv).elim (fun h1 => hp.1 hu v h1) (fun h1 => h v h1), pre_append hp.2 h⟩
theorem outUs_key (again : Bool) (now q : Int) (ws : List Int) : ∀ (n : Nat) (t : Int) (us : List UM), (outUs again now q ws n t us).2.1.map key = us.map key
  | 0, t, us => rfl
  | n + 1, t, [] => rfl
  | n + 1, t, v :: r => by
    unfold outUs
    split
    · simp only [List.map_cons, outUs_key again now q ws n t r]
    · simp only [List.map_cons, outUs_key again now q ws n _ r]; rfl
theorem outUs_pre {again : Bool} {now q : Int} {ws : List Int} (h0 : 0 ≤ now) : ∀ (n : Nat) (t : Int) (us : List UM), Pre us → Pre (outUs again now q ws n t us).2.1
  | 0, t, us, h => h
  | n + 1, t, [], h => trivial
  | n + 1, t, v :: r, h => by
    unfold outUs
    split
    · rename_i hc
      simp at hc
      exact ⟨fun h' => by omega, outUs_pre h0 n t r h.2⟩
    · exact ⟨fun h' => by simp only at h'; omega, outUs_pre h0 n _ r h.2⟩
/-- The units of a message, the last one marked. -/
def addL (m : Int) : Nat → List (List Int) → List UM
  | _, [] => []
  | k, p :: ps => ⟨ps.isEmpty, m, (k : Int), p, -1⟩ :: addL m (k + 1) ps
theorem setLast_app : ∀ (us : List UM) (m : Int) (k : Nat) (ps : List (List Int)), ps ≠ [] → setLast (us ++ addU m k ps) = us ++ addL m k ps := by
  intro us m k ps hps
  have key : ∀ (k : Nat) (ps : List (List Int)), ps ≠ [] → ∃ init l, addU m k ps = init ++ [l] ∧ addL m k ps = init ++ [{ l with last := true }] := by
    intro k ps
    induction ps generalizing k with
    | nil => intro h; exact absurd rfl h
    | cons p ps ih =>
      intro _
      cases ps with
      | nil => exact ⟨[], _, rfl, rfl⟩
      | cons q r =>
        obtain ⟨init, l, h1, h2⟩ := ih (k + 1) (by simp)
        exact ⟨⟨false, m, (k : Int), p, -1⟩ :: init, l, by rw [addU, h1]; rfl, by rw [addL, h2]; rfl⟩
  obtain ⟨init, l, h1, h2⟩ := key k ps hps
  rw [h1, h2, ← List.append_assoc, ← List.append_assoc]
  unfold setLast
  have : (us ++ init ++ [l])[(us ++ init ++ [l]).length - 1]? = some l := by simp
  rw [this]
  simp
theorem addL_mem (m : Int) : ∀ (k : Nat) (ps : List (List Int)), ∀ u ∈ addL m k ps, u.m = m ∧ (k : Int) ≤ u.f ∧ u.f < (k : Int) + ps.length ∧ u.d ∈ ps ∧ u.at_ = -1
  | _, [], u, h => by simp [addL] at h
  | k, p :: ps, u, h => by
    rcases List.mem_cons.1 h with rfl | h
    · simp; omega
    · obtain ⟨h1, h2, h3, h4, h5⟩ := addL_mem m (k + 1) ps u h
      refine ⟨h1, by omega, ?_, by simp [h4], h5⟩
      simp only [List.length_cons]; omega
theorem addL_length (m : Int) : ∀ (k : Nat) (ps : List (List Int)), (addL m k ps).length = ps.length
  | _, [] => rfl
  | k, p :: ps => by simp [addL, addL_length m (k + 1) ps]
theorem addL_chn (m : Int) : ∀ (k : Nat) (ps : List (List Int)), Chn (addL m k ps)
  | _, [] => trivial
  | k, [p] => ⟨trivial, trivial⟩
  | k, p :: q :: r => ⟨by show nxt ⟨false, m, (k : Int), p, -1⟩ = (m, ((k + 1 : Nat) : Int)); unfold nxt; simp, addL_chn m (k + 1) (q :: r)⟩
theorem addL_last (m : Int) : ∀ (k : Nat) (ps : List (List Int)) (u : UM), (addL m k ps).getLast? = some u → u.last = true ∧ u.m = m
  | _, [], u, h => by simp [addL] at h
  | k, [p], u, h => by simp [addL] at h; subst h; exact ⟨rfl, rfl⟩
  | k, p :: q :: r, u, h => by
    have : addL m k (p :: q :: r) = ⟨false, m, (k : Int), p, -1⟩ :: addL m (k + 1) (q :: r) := rfl
    rw [this] at h
    have h2 : addL m (k + 1) (q :: r) = ⟨r.isEmpty, m, ((k + 1 : Nat) : Int), q, -1⟩ :: addL m (k + 2) r := rfl
    rw [h2, List.getLast?_cons_cons, ← h2] at h
    exact addL_last m (k + 1) (q :: r) u h
theorem pcs_le : ∀ (n sz : Nat) (d : List Int), ∀ p ∈ pcs n sz d, p.length ≤ d.length
  | 0, sz, d, p, h => by simp [pcs] at h
  | n + 1, sz, d, p, h => by
    unfold pcs at h
    split at h
    · simp at h; subst h; exact Nat.le_refl _
    · rcases List.mem_cons.1 h with rfl | h
      · simp; omega
      · have := pcs_le n sz (d.drop sz) p h
        simp at this; omega
structure LInv (n : Nat) (M : LM) : Prop where
  wf : Wf M
  tn : M.turn ≤ 8 * (n : Int)
  un : M.us.length ≤ 4097 * n
  an : M.acks.length ≤ n
  mn : 1 ≤ M.msg ∧ M.msg ≤ (n : Int) + 1
  fr : 0 ≤ M.frag
  pl : M.part.length ≤ 4096
  us : ∀ u ∈ M.us, 1 ≤ u.m ∧ u.m ≤ M.sent ∧ 0 ≤ u.f ∧ u.f ≤ 4097 ∧ u.d.length ≤ 4096
  ch : Chn M.us
  pre : Pre M.us
  la : ∀ u, M.us.getLast? = some u → u.last = true ∧ u.m = M.sent
theorem LInv.mono {n n' : Nat} {M : LM} (h : LInv n M) (hn : n ≤ n') : LInv n' M :=
  { h with tn := by have := h.tn; omega, un := Nat.le_trans h.un (Nat.mul_le_mul_left _ hn), an := Nat.le_trans h.an hn, mn := by have := h.mn; omega }
theorem LInv.up {n : Nat} {M : LM} {u : List Bool} (h : LInv n M) (hu : u.length = M.up.length) : LInv n { M with up := u } :=
  { h with wf := { h.wf with up1 := by simp only [hu]; exact h.wf.up1, up8 := by simp only [hu]; exact h.wf.up8, aw := by simp only [hu]; exact h.wf.aw } }
theorem inv_new {k : Nat} {size q t : Int} (h1 : 1 ≤ k) (h8 : k ≤ 8) (hs : 32 ≤ size ∧ size ≤ 4096) (ht : 1 ≤ t ∧ t ≤ 1099511627776) : LInv 0 (newM k size q t) where
  wf := newM_wf h1 h8 hs ht
  tn := by simp [newM]
  un := by simp [newM]
  an := by simp [newM]
  mn := by simp [newM]
  fr := by simp [newM]
  pl := by simp [newM]
  us := by intro u hu; simp [newM] at hu
  ch := by simp [newM]; trivial
  pre := by simp [newM]; trivial
  la := by intro u hu; simp [newM] at hu
theorem outM_us {M : LM} {now : Int} : (outM M now).sent = M.sent ∧ (outM M now).msg = M.msg ∧ (outM M now).frag = M.frag ∧ (outM M now).part = M.part ∧ ((outM M now).us = M.us ∨ 0 ≤ now ∧ ∃ a q ws t, (outM M now).us = (outUs a now q ws 8 t M.us).2.1) := by
  unfold outM
  split
  · exact ⟨rfl, rfl, rfl, rfl, .inl rfl⟩
  · rename_i h0
    obtain ⟨t1, _⟩ := timeE_zero (Decidable.not_not.1 h0)
    split
    · exact ⟨rfl, rfl, rfl, rfl, .inl rfl⟩
    · split
      · exact ⟨rfl, rfl, rfl, rfl, .inl rfl⟩
      · exact ⟨rfl, rfl, rfl, rfl, .inr ⟨t1, _, _, _, _, rfl⟩⟩
theorem keys_all {s : Int} {us us' : List UM} (hk : us'.map key = us.map key) (h : ∀ u ∈ us, 1 ≤ u.m ∧ u.m ≤ s ∧ 0 ≤ u.f ∧ u.f ≤ 4097 ∧ u.d.length ≤ 4096) : ∀ u ∈ us', 1 ≤ u.m ∧ u.m ≤ s ∧ 0 ≤ u.f ∧ u.f ≤ 4097 ∧ u.d.length ≤ 4096 := by
  intro u hu
  have h1 : key u ∈ us'.map key := List.mem_map_of_mem hu
  rw [hk] at h1
  obtain ⟨v, hv, e⟩ := List.mem_map.1 h1
  simp only [key, Prod.mk.injEq] at e
  have := h v hv
  rw [e.2.1, e.2.2.1, e.2.2.2] at this
  exact this
theorem inv_out {n : Nat} {M : LM} {now : Int} (h : LInv n M) (hn : n < 1000000) : LInv (n + 1) (outM M now) := by
  have hT := h.tn
  obtain ⟨w1, w2, w3, w4, w5⟩ := wf_out (now := now) h.wf (by omega)
  have hu := h.un
  have ha := h.an
  have hm := h.mn
  obtain ⟨f1, f2, f3, f4, f5⟩ := outM_us (M := M) (now := now)
  have hk : (outM M now).us.map key = M.us.map key := by
    rcases f5 with e | ⟨h0, a, q, ws, t, e⟩
    · rw [e]
    · rw [e, outUs_key]
  refine ⟨w1, by omega, by omega, by omega, by rw [f2]; omega, by rw [f3]; exact h.fr, by rw [f4]; exact h.pl, ?_, chn_key hk h.ch, ?_, ?_⟩
  · rw [f1]; exact keys_all hk h.us
  · rcases f5 with e | ⟨h0, a, q, ws, t, e⟩
    · rw [e]; exact h.pre
    · rw [e]; exact outUs_pre h0 8 t M.us h.pre
  · intro u hu
    rw [f1]
    have h1 : ((outM M now).us.map key).getLast? = some (key u) := by rw [List.getLast?_map, hu]; rfl
    rw [hk, List.getLast?_map] at h1
    cases hl : M.us.getLast? with
    | none => rw [hl] at h1; simp at h1
    | some v =>
      rw [hl] at h1
      simp only [Option.map_some, Option.some.injEq, key, Prod.mk.injEq] at h1
      have := h.la v hl
      rw [← h1.1, ← h1.2.1]; exact this
theorem inv_send {n : Nat} {M : LM} {d : List Int} {now : Int} (h : LInv n M) (hn : n < 60000) : LInv (n + 1) (sendM M d now) := by
  by_cases he : sendE M d now ≠ 0
  · have : sendM M d now = M := by unfold sendM; rw [if_neg he]
    rw [this]; exact h.mono (by omega)
  replace he := Decidable.not_not.1 he
  obtain ⟨ht, h1, h2, h3⟩ := sendE_zero he
  have hu := h.un
  obtain ⟨w1, w2, w3⟩ := wf_send (d := d) (now := now) h.wf (by omega)
  have hlen := (send_len (M := M) (d := d) (now := now)).1
  have eM : sendM M d now = { M with clock := now, sent := M.sent + 1, us := M.us ++ addL (M.sent + 1) 0 (pcs (d.length + 1) (M.size - 24).toNat d) } := by
    unfold sendM; rw [if_pos he, setLast_app _ _ _ _ (pcs_ne _ _ _)]
  have ht := h.tn
  have ha := h.an
  have hm := h.mn
  have hsd := h.wf.sd
  have hpl := pcs_length (d.length + 1) (M.size - 24).toNat d
  refine ⟨w1, by rw [w3]; omega, by omega, by rw [w2]; omega, by rw [eM]; simp only; omega, by rw [eM]; exact h.fr, by rw [eM]; exact h.pl, ?_, ?_, ?_, ?_⟩
  · rw [eM]; intro u hu
    rcases List.mem_append.1 hu with hu | hu
    · have := h.us u hu; simp only; omega
    · obtain ⟨g1, g2, g3, g4, g5⟩ := addL_mem _ _ _ u hu
      have := pcs_le _ _ _ _ g4
      simp only; omega
  · rw [eM]
    refine chn_append h.ch (addL_chn _ _ _) ?_
    intro u v hu hv
    obtain ⟨g1, g2⟩ := h.la u hu
    cases hp : pcs (d.length + 1) (M.size - 24).toNat d with
    | nil => exact absurd hp (pcs_ne _ _ _)
    | cons p ps =>
      rw [hp] at hv
      simp [addL] at hv
      subst hv
      unfold nxt; rw [if_pos g1, g2]
  · rw [eM]
    exact pre_append h.pre fun v hv => by rw [(addL_mem _ _ _ v hv).2.2.2.2]; decide
  · rw [eM]; intro u hu
    simp only at hu
    rw [List.getLast?_append] at hu
    cases hl : (addL (M.sent + 1) 0 (pcs (d.length + 1) (M.size - 24).toNat d)).getLast? with
    | none =>
      rw [List.getLast?_eq_none_iff] at hl
      have := congrArg List.length hl
      rw [addL_length] at this
      exact absurd (List.length_eq_zero_iff.1 this) (pcs_ne _ _ _)
    | some v =>
      rw [hl] at hu
      simp at hu; subst hu
      exact addL_last _ _ _ v hl
theorem lastDone_range {s : Int} : ∀ (us : List UM) (d : Int), 0 ≤ d ∧ d ≤ s → (∀ u ∈ us, 1 ≤ u.m ∧ u.m ≤ s) → 0 ≤ lastDone d us ∧ lastDone d us ≤ s
  | [], d, h, _ => h
  | u :: r, d, h, hu => by
    show 0 ≤ lastDone (if u.last then u.m else d) r ∧ _
    have h1 := hu u (by simp)
    refine lastDone_range r _ ?_ fun v hv => hu v (by simp [hv])
    split
    · omega
    · exact h
theorem wf_clock {M : LM} {now : Int} (h : Wf M) (ht : timeE M now = 0) : Wf { M with clock := now } := by
  obtain ⟨t1, t2, t3, t4⟩ := timeE_zero ht
  exact { h with clock := ⟨t1, t2⟩ }
theorem inv_clock {n : Nat} {M : LM} {now : Int} (h : LInv n M) (ht : timeE M now = 0) : LInv n { M with clock := now } := { h with wf := wf_clock h.wf ht }
theorem getLast_drop {α : Type} {l : List α} {n : Nat} {u : α} (h : (l.drop n).getLast? = some u) : l.getLast? = some u := by
  rw [List.getLast?_drop] at h
  split at h
  · cases h
  · exact h
theorem inv_ack {n : Nat} {M : LM} {m f : Int} (h : LInv n M) : LInv n (ackM M m f) := by
  unfold ackM
  split
  · exact h
  · rename_i i hi
    split
    · exact h
    · split
      · exact h
      · have hr := lastDone_range (s := M.sent) (M.us.take (i + 1)) M.done ⟨h.wf.sd.1, h.wf.sd.2.1⟩ fun u hu => by have := h.us u (List.mem_of_mem_take hu); omega
        have hs := h.wf.sd
        have hul := h.wf.ul
        have hun := h.un
        exact { wf := { h.wf with rep := by simp, at_ := fun u hu => h.wf.at_ u (List.mem_of_mem_drop hu), ul := by simp only [List.length_drop]; omega, sd := by simp only; omega }
                tn := h.tn, un := by simp only [List.length_drop]; omega, an := h.an, mn := h.mn, fr := h.fr, pl := h.pl
                us := fun u hu => h.us u (List.mem_of_mem_drop hu), ch := chn_drop _ h.ch, pre := pre_drop _ h.pre, la := fun u hu => h.la u (getLast_drop hu) }
theorem inv_take {n : Nat} {M : LM} {m f : Int} {last : Bool} {d : List Int} (h : LInv n M) (hm : M.msg ≤ (n : Int) + 1) : LInv (n + 1) (takeM M m f last d) := by
  have h' := h.mono (n' := n + 1) (by omega)
  unfold takeM
  split
  · rename_i hf
    split
    · have := h.mn
      exact { h' with wf := { h.wf with }, mn := by simp only; omega, fr := by simp, pl := by simp }
    · have h3 := hf.2.2
      have := h.fr
      exact { h' with wf := { h.wf with }, fr := by simp only; omega, pl := by simp only [List.length_append]; omega }
  · exact h'
theorem takeM_eqs {M : LM} {m f : Int} {last : Bool} {d : List Int} : (takeM M m f last d).acks = M.acks ∧ (takeM M m f last d).up = M.up ∧ (takeM M m f last d).turn = M.turn := by
  unfold takeM; repeat' split
  all_goals exact ⟨rfl, rfl, rfl⟩
theorem inv_in {n : Nat} {M : LM} {x now : Int} {xs : List Int} (h : LInv n M) (hn : n < 1000000) : LInv (n + 1) (inM M x xs now) := by
  unfold inM
  split
  · exact h.mono (by omega)
  · rename_i h0
    replace h0 := Decidable.not_not.1 h0
    have hx : ¬ (x < 0 ∨ (M.up.length : Int) ≤ x) := by
      intro hx; unfold inE at h0; rw [if_pos hx] at h0; cases h0
    have ht : timeE M now = 0 := by
      unfold inE at h0; rw [if_neg hx] at h0
      split at h0
      · rename_i h1; exact absurd h0 h1
      · rename_i h1; exact Decidable.not_not.1 h1
    have hc := inv_clock h ht
    split
    · exact (inv_ack hc).mono (by omega)
    · have h1 := inv_take (m := dM xs) (f := dF xs) (last := decide (dB xs = 1)) (d := xs.drop 24) hc hc.mn.2
      obtain ⟨e1, e2, e3⟩ := takeM_eqs (M := { M with clock := now }) (m := dM xs) (f := dF xs) (last := decide (dB xs = 1)) (d := xs.drop 24)
      generalize takeM { M with clock := now } (dM xs) (dF xs) (decide (dB xs = 1)) (xs.drop 24) = M1 at h1 e1 e2 e3
      have han := h.an
      unfold addA
      have e1' : M1.acks = M.acks := e1
      have e2' : M1.up = M.up := e2
      have haw : ∀ a ∈ M1.acks ++ [⟨x.toNat, M1.msg, M1.frag⟩], a.w < M1.up.length := by
        intro a ha
        rcases List.mem_append.1 ha with ha | ha
        · exact h1.wf.aw a ha
        · simp at ha; subst ha; simp only [e2']; omega
      have hal : (M1.acks ++ [⟨x.toNat, M1.msg, M1.frag⟩] : List AM).length < 134217728 := by rw [List.length_append, e1', List.length_singleton]; omega
      have han : (M1.acks ++ [⟨x.toNat, M1.msg, M1.frag⟩] : List AM).length ≤ n + 1 := by rw [List.length_append, e1', List.length_singleton]; omega
      exact { h1 with an := han, wf := { h1.wf with aw := haw, al := hal } }
end Go.Proofs.Ytmnpndgmfmjfhaa.Den
