/- Message queue: each message is received once: in plain Lean. Conditions: none. -/
import Derived.Test.YthcekppbbanfeaaMqR
set_option linter.unusedVariables false
set_option linter.unusedSimpArgs false
set_option maxRecDepth 8000
set_option maxHeartbeats 1000000
namespace Go.Proofs.Ythcekppbbanfeaa.Den
open Go Go.RowKit
abbrev Ky := UInt8 × UInt8
def kyOf : List Int → Ky
  | [a, b] => (UInt8.ofNat a.toNat, UInt8.ofNat b.toNat)
  | _ => (0, 0)
def Ms.ky (m : Ms) : Ky := kyOf m.bs
/-- What is sent and not yet received. -/
def pend (q : Q25) (S : List Kp) : List Ky := S.map (fun k => k.m.ky) ++ q.sn.map (fun k => k.m.ky)
structure OnceI (q : Q25) (S : List Kp) (T G : List Ky) (i : Nat) : Prop where
  ord : Ord q.ms S
  le : ∀ k ∈ S, k.num ≤ q.num
  num : 0 ≤ q.num ∧ q.num ≤ i
  nt : q.nt = none
  mx : 1 ≤ q.max ∧ q.max ≤ 64
  sz : q.size = 8
  fit : (S.length : Int) ≤ q.max
  full : q.sn ≠ [] → (S.length : Int) = q.max
  idle : q.rc = [] ∨ (S = [] ∧ q.sn = [])
  b1 : ∀ k ∈ S, k.m.bs.length = 2
  b2 : ∀ k ∈ q.sn, k.m.bs.length = 2
  t1 : ∀ k ∈ q.sn, 0 ≤ k.th ∧ k.th < i
  t2 : ∀ k ∈ q.rc, 0 ≤ k.th ∧ k.th < i
  perm : T.Perm (G ++ pend q S)
  nd : T.Nodup
  lt : ∀ t ∈ T, t.1.toNat < i
theorem OnceI.len {q : Q25} {S : List Kp} {T G : List Ky} {i : Nat} (h : OnceI q S T G i) : q.ms.length = S.length := h.ord.perm.length_eq
theorem OnceI.free {q : Q25} {S : List Kp} {T G : List Ky} {i : Nat} {th : Int} (h : OnceI q S T G i) (ht : (i : Int) ≤ th) : q.blocked th = false := by
  unfold Q25.blocked
  rw [decide_eq_false, decide_eq_false]; rfl
  · intro hm
    obtain ⟨k, hk, e⟩ := List.mem_map.1 hm
    have := (h.t2 k hk).2; omega
  · intro hm
    obtain ⟨k, hk, e⟩ := List.mem_map.1 hm
    have := (h.t1 k hk).2; omega
theorem OnceI.gnd {q : Q25} {S : List Kp} {T G : List Ky} {i : Nat} (h : OnceI q S T G i) : (G ++ pend q S).Nodup := h.perm.nodup_iff.1 h.nd
theorem valid_i {i : Nat} (h : i < 256) : validT (i : Int) 0 = true := by unfold validT; simp; omega
theorem OnceI.new_key {q : Q25} {S : List Kp} {T G : List Ky} {i : Nat} (h : OnceI q S T G i) (hi : i < 256) {m : Ms} {x : Int} (hb : m.bs = [(i : Int), x]) : m.ky ∉ T ∧ m.ky.1.toNat = i := by
  have e : m.ky.1.toNat = i := by
    unfold Ms.ky; rw [hb]
    show (UInt8.ofNat ((i : Int)).toNat).toNat = i
    rw [UInt8.toNat_ofNat']; simp; omega
  exact ⟨fun hm => by have := h.lt _ hm; omega, e⟩
theorem OnceI.send {q : Q25} {S : List Kp} {T G : List Ky} {i : Nat} {m : Ms} {x : Int} (h : OnceI q S T G i) (hi : i < 256) (hp : 0 ≤ m.pri ∧ m.pri ≤ 31) (hb : m.bs = [(i : Int), x]) :
    (∃ e, q.send i m true 0 = ⟨false, [], [], 18, q⟩ ∧ e = 0) ∨ ∃ blk es q' S', q.send i m true 0 = ⟨blk, es, [], 0, q'⟩ ∧ OnceI q' S' (T ++ [m.ky]) (G ++ es.map fun e => e.m.ky) (i + 1) ∧ (∀ e ∈ es, e.m.bs.length = 2) ∧ es.length ≤ 1 := by
  obtain ⟨hnew, hk1⟩ := h.new_key hi hb
  have hnd : (T ++ [m.ky]).Nodup := List.nodup_append.2 ⟨h.nd, by simp, fun a ha b hb2 => by rw [List.mem_singleton.1 hb2]; exact fun e => hnew (e ▸ ha)⟩
  have hlt : ∀ t ∈ T ++ [m.ky], t.1.toNat < i + 1 := fun t ht => by
    rcases List.mem_append.1 ht with ht | ht
    · have := h.lt t ht; omega
    · rw [List.mem_singleton.1 ht]; omega
  have t1' : ∀ k ∈ q.sn, 0 ≤ k.th ∧ k.th < ((i + 1 : Nat) : Int) := fun k hk => by have := h.t1 k hk; omega
  have t2' : ∀ k ∈ q.rc, 0 ≤ k.th ∧ k.th < ((i + 1 : Nat) : Int) := fun k hk => by have := h.t2 k hk; omega
  have hlen := h.len
  have hbl : m.bs.length = 2 := by rw [hb]; rfl
  have hn := h.num
  have c1 : ¬ (validT (i : Int) 0 = false ∨ m.pri < 0 ∨ 31 < m.pri) := by rw [valid_i hi]; simp; omega
  have c2 : ¬ q.size < (m.bs.length : Int) := by rw [h.sz, hbl]; omega
  have c3 : ¬ q.blocked (i : Int) = true := by rw [h.free (Int.le_refl _)]; decide
  by_cases hfull : (q.ms.length : Int) < q.max
  · right
    have es0 : q.send i m true 0 = ⟨false, (q.put m).1.1, (q.put m).1.2, 0, (q.put m).2⟩ := by
      unfold Q25.send; rw [if_neg c1, if_neg c2, if_neg c3, if_pos hfull]
    have hsn : q.sn = [] := by
      by_cases e : q.sn = []
      · exact e
      · have := h.full e; omega
    cases hrc : q.rc with
    | cons r rs =>
      have e : q.put m = (([⟨r.th, m, 0⟩], []), { q with rc := rs }) := by unfold Q25.put; rw [hrc]
      rw [e] at es0
      refine ⟨false, _, _, S, es0, ?_, by intro z hz; rw [List.mem_singleton.1 hz]; exact hbl, Nat.le_refl _⟩
      have hS : S = [] := by
        rcases h.idle with h1 | h1
        · rw [hrc] at h1; cases h1
        · exact h1.1
      refine ⟨h.ord, h.le, ⟨hn.1, by show q.num ≤ _; omega⟩, h.nt, h.mx, h.sz, h.fit, h.full, ?_, h.b1, h.b2, t1', fun k hk => t2' k (by rw [hrc]; simp [hk]), ?_, hnd, hlt⟩
      · exact .inr ⟨hS, hsn⟩
      · have hp : pend ({ q with rc := rs } : Q25) S = pend q S := rfl
        rw [hp]
        refine (h.perm.append_right _).trans ?_
        rw [List.append_assoc, List.append_assoc]
        exact List.Perm.append_left _ List.perm_append_comm
    | nil =>
      have e : q.put m = (([], []), { q with num := q.num + 1, ms := pushK q.ms ⟨m, q.num + 1⟩ }) := by unfold Q25.put; rw [hrc, h.nt]
      rw [e] at es0
      refine ⟨false, _, _, insK ⟨m, q.num + 1⟩ S, es0, ?_, by simp, by simp⟩
      have hil : (insK ⟨m, q.num + 1⟩ S).length = S.length + 1 := (insK_perm _ _).length_eq
      refine ⟨h.ord.push fun a ha => by have := h.le a ha; show a.num < q.num + 1; omega, fun k hk => ?_, ⟨by show 0 ≤ q.num + 1; omega, by show q.num + 1 ≤ _; omega⟩, h.nt, h.mx, h.sz, by show _ ≤ q.max; omega, fun hne => absurd hsn hne, .inl hrc, fun k hk => ?_, h.b2, t1', t2', ?_, hnd, hlt⟩
      · show k.num ≤ q.num + 1
        rcases List.mem_cons.1 ((insK_perm _ _).mem_iff.1 hk) with rfl | hk
        · exact Int.le_refl _
        · have := h.le k hk; omega
      · rcases List.mem_cons.1 ((insK_perm _ _).mem_iff.1 hk) with rfl | hk
        · exact hbl
        · exact h.b1 k hk
      · refine (h.perm.append_right _).trans ?_
        show (G ++ pend q S ++ [m.ky]).Perm (G ++ [] ++ ((insK ⟨m, q.num + 1⟩ S).map (fun k => k.m.ky) ++ q.sn.map (fun k => k.m.ky)))
        rw [List.append_nil, List.append_assoc]
        refine List.Perm.append_left _ ?_
        unfold pend
        rw [hsn]
        simp only [List.map_nil, List.append_nil]
        refine List.perm_append_comm.trans ?_
        exact ((insK_perm ⟨m, q.num + 1⟩ S).map fun k => k.m.ky).symm
  · by_cases hlim : blockE q true 0 (q.sn.length : Int) ≠ 0
    · left
      refine ⟨0, ?_, rfl⟩
      have hb18 : blockE q true 0 (q.sn.length : Int) = 18 := by
        unfold blockE at hlim ⊢
        rw [if_neg (by simp), if_neg (by simp)] at hlim ⊢
        split at hlim
        · rename_i h64; rw [if_pos h64]
        · exact absurd rfl hlim
      unfold Q25.send; rw [if_neg c1, if_neg c2, if_neg c3, if_neg hfull, if_pos hlim, hb18]
    · right
      have es0 : q.send i m true 0 = ⟨true, [], [], 0, { q with sn := q.sn ++ [⟨i, 0, m⟩] }⟩ := by
        unfold Q25.send; rw [if_neg c1, if_neg c2, if_neg c3, if_neg hfull, if_neg hlim]
      have hrc : q.rc = [] := by
        rcases h.idle with h1 | h1
        · exact h1
        · have := h.mx; rw [h1.1] at hlen; simp at hlen; rw [hlen] at hfull; simp at hfull; omega
      refine ⟨true, _, _, S, es0, ?_, by simp, by simp⟩
      refine ⟨h.ord, h.le, ⟨hn.1, by show q.num ≤ _; omega⟩, h.nt, h.mx, h.sz, h.fit, fun _ => by show (S.length : Int) = q.max; have := h.fit; omega, .inl hrc, h.b1, fun k hk => ?_, fun k hk => ?_, t2', ?_, hnd, hlt⟩
      · rcases List.mem_append.1 hk with hk | hk
        · exact h.b2 k hk
        · rw [List.mem_singleton.1 hk]; exact hbl
      · rcases List.mem_append.1 hk with hk | hk
        · exact t1' k hk
        · rw [List.mem_singleton.1 hk]; simp only; omega
      · refine (h.perm.append_right _).trans ?_
        show (G ++ pend q S ++ [m.ky]).Perm (G ++ [] ++ (S.map (fun k => k.m.ky) ++ (q.sn ++ [(⟨i, 0, m⟩ : Sw)]).map (fun k => k.m.ky)))
        rw [List.append_nil, List.append_assoc, List.map_append]
        unfold pend
        rw [List.append_assoc]
        exact List.Perm.refl _
theorem OnceI.recv {q : Q25} {S : List Kp} {T G : List Ky} {i : Nat} {th : Nat} {wait : Bool} {cp : Ms → Ms} (h : OnceI q S T G i) (hi : i ≤ th) (ht : th < 256) (hcp : ∀ m, (cp m).pri = m.pri ∧ (cp m).bs = m.bs) (i' : Nat) (hi' : i < i') (hth : wait = true → th < i') :
    (∃ err, q.recv th wait 0 cp = ⟨ms0, ⟨false, [], [], err, q⟩⟩ ∧ err = (if wait then 18 else 2) ∧ S = []) ∨ (∃ q', q.recv th wait 0 cp = ⟨ms0, ⟨true, [], [], 0, q'⟩⟩ ∧ OnceI q' S T G i' ∧ wait = true) ∨
      ∃ m es q' S', q.recv th wait 0 cp = ⟨m, ⟨false, es, [], 0, q'⟩⟩ ∧ OnceI q' S' T (G ++ [m.ky]) i' ∧ m.bs.length = 2 ∧ (pend q' S').length + 1 = (pend q S).length := by
  have hlen := h.len
  have hn := h.num
  have c1 : ¬ validT (th : Int) 0 = false := by rw [valid_i ht]; decide
  have c2 : ¬ q.blocked (th : Int) = true := by rw [h.free (by omega)]; decide
  have hlt : ∀ t ∈ T, t.1.toNat < i' := fun t ht => by have := h.lt t ht; omega
  have t1' : ∀ k ∈ q.sn, 0 ≤ k.th ∧ k.th < ((i' : Nat) : Int) := fun k hk => by have := h.t1 k hk; omega
  have t2' : ∀ k ∈ q.rc, 0 ≤ k.th ∧ k.th < ((i' : Nat) : Int) := fun k hk => by have := h.t2 k hk; omega
  cases S with
  | nil =>
    have hms : q.ms = [] := List.perm_nil.1 h.ord.perm
    have hpk : (popK q.ms)[q.ms.length - 1]? = none := by rw [hms]; rfl
    have hsn : q.sn = [] := by
      by_cases e : q.sn = []
      · exact e
      · have := h.full e; have := h.mx; simp at *; omega
    by_cases hlim : blockE q wait 0 (q.rc.length : Int) ≠ 0
    · left
      refine ⟨_, by unfold Q25.recv; rw [if_neg c1, if_neg c2, hpk]; simp only; rw [if_pos hlim], ?_, rfl⟩
      unfold blockE at hlim ⊢
      cases wait with
      | false => simp
      | true =>
        rw [if_neg (by simp), if_neg (by simp)] at hlim ⊢
        split at hlim
        · rename_i h64; rw [if_pos h64]; rfl
        · exact absurd rfl hlim
    · right; left
      have hw : wait = true := by
        cases wait with
        | false => exact absurd (by unfold blockE; rw [if_pos rfl]; decide) hlim
        | true => rfl
      refine ⟨_, by unfold Q25.recv; rw [if_neg c1, if_neg c2, hpk]; simp only; rw [if_neg hlim], ?_, hw⟩
      refine ⟨h.ord, h.le, ⟨hn.1, by show q.num ≤ _; omega⟩, h.nt, h.mx, h.sz, h.fit, h.full, .inr ⟨rfl, hsn⟩, h.b1, h.b2, t1', fun k hk => ?_, h.perm, h.nd, hlt⟩
      rcases List.mem_append.1 hk with hk | hk
      · exact t2' k hk
      · rw [List.mem_singleton.1 hk]; have := hth hw; simp only; omega
  | cons a S =>
    right; right
    obtain ⟨h1, h2⟩ := h.ord.pop
    have hrc : q.rc = [] := by
      rcases h.idle with h0 | h0
      · exact h0
      · cases h0.1
    have hfit := h.fit
    have hfl := h.full
    rw [List.length_cons] at hfit hfl
    cases hsn : q.sn with
    | nil =>
      refine ⟨a.m, [], { q with ms := (popK q.ms).take (q.ms.length - 1) }, S, ?_, ⟨h2, fun k hk => h.le k (by simp [hk]), ⟨hn.1, by show q.num ≤ _; omega⟩, h.nt, h.mx, h.sz, by show _ ≤ q.max; omega, fun hne => absurd hsn hne, .inl hrc, fun k hk => h.b1 k (by simp [hk]), h.b2, t1', t2', ?_, h.nd, hlt⟩, h.b1 a (by simp), ?_⟩
      · unfold Q25.recv; rw [if_neg c1, if_neg c2, h1]; simp only; rw [hsn]
      · refine h.perm.trans ?_
        show (G ++ ((a :: S).map (fun k => k.m.ky) ++ q.sn.map (fun k => k.m.ky))).Perm (G ++ [a.m.ky] ++ (S.map (fun k => k.m.ky) ++ q.sn.map (fun k => k.m.ky)))
        rw [List.map_cons, List.append_assoc]; exact List.Perm.refl _
      · show (S.map (fun k => k.m.ky) ++ q.sn.map (fun k => k.m.ky)).length + 1 = ((a :: S).map (fun k => k.m.ky) ++ q.sn.map (fun k => k.m.ky)).length
        simp [hsn]
    | cons y ys =>
      have hfl := hfl (by rw [hsn]; simp)
      have e : ({ q with ms := (popK q.ms).take (q.ms.length - 1), sn := ys } : Q25).put (cp y.m) = (([], []), { q with sn := ys, num := q.num + 1, ms := pushK ((popK q.ms).take (q.ms.length - 1)) ⟨cp y.m, q.num + 1⟩ }) := by
        unfold Q25.put; simp only; rw [hrc, h.nt]
      have hyb : (cp y.m).bs = y.m.bs := (hcp y.m).2
      have hil : (insK ⟨cp y.m, q.num + 1⟩ S).length = S.length + 1 := (insK_perm _ _).length_eq
      refine ⟨a.m, [⟨y.th, ms0, 0⟩], { q with sn := ys, num := q.num + 1, ms := pushK ((popK q.ms).take (q.ms.length - 1)) ⟨cp y.m, q.num + 1⟩ }, insK ⟨cp y.m, q.num + 1⟩ S, ?_, ⟨h2.push fun b hb => by have := h.le b (by simp [hb]); show b.num < q.num + 1; omega, fun k hk => ?_, ⟨by show 0 ≤ q.num + 1; omega, by show q.num + 1 ≤ _; omega⟩, h.nt, h.mx, h.sz, by show _ ≤ q.max; omega, fun _ => by show _ = q.max; omega, .inl hrc, fun k hk => ?_, fun k hk => h.b2 k (by rw [hsn]; simp [hk]), fun k hk => t1' k (by rw [hsn]; simp [hk]), t2', ?_, h.nd, hlt⟩, h.b1 a (by simp), ?_⟩
      · unfold Q25.recv; rw [if_neg c1, if_neg c2, h1]; simp only; rw [hsn]; simp only; rw [e]
      · show k.num ≤ q.num + 1
        rcases List.mem_cons.1 ((insK_perm _ _).mem_iff.1 hk) with rfl | hk
        · exact Int.le_refl _
        · have := h.le k (by simp [hk]); omega
      · rcases List.mem_cons.1 ((insK_perm _ _).mem_iff.1 hk) with rfl | hk
        · show (cp y.m).bs.length = 2; rw [hyb]; exact h.b2 y (by rw [hsn]; simp)
        · exact h.b1 k (by simp [hk])
      · refine h.perm.trans ?_
        have hky : (cp y.m).ky = y.m.ky := by unfold Ms.ky; rw [hyb]
        show (G ++ ((a :: S).map (fun k => k.m.ky) ++ q.sn.map (fun k => k.m.ky))).Perm (G ++ [a.m.ky] ++ ((insK ⟨cp y.m, q.num + 1⟩ S).map (fun k => k.m.ky) ++ ys.map (fun k => k.m.ky)))
        rw [List.map_cons, List.append_assoc, hsn, List.map_cons]
        refine List.Perm.append_left _ (List.Perm.cons _ ?_)
        refine List.Perm.trans ?_ (((insK_perm ⟨cp y.m, q.num + 1⟩ S).map fun k => k.m.ky).symm.append_right _)
        rw [List.map_cons, hky]
        exact List.perm_middle
      · show ((insK ⟨cp y.m, q.num + 1⟩ S).map (fun k => k.m.ky) ++ ys.map (fun k => k.m.ky)).length + 1 = ((a :: S).map (fun k => k.m.ky) ++ q.sn.map (fun k => k.m.ky)).length
        rw [hsn]; simp [hil]; omega
end Go.Proofs.Ythcekppbbanfeaa.Den
