/- Packet filter: the program's states and the reference's go together, in plain data. Conditions: none. -/
import Derived.Test.YtmmbepdghpjgeaaRows
import Derived.WalkKit
import Derived.ProofKit
import Derived.OpenShut
import Derived.Carry
import Derived.Deep.Slices
import Derived.Deep.Fields
import Derived.ChangeSame
import Derived.Lib.SmallJoins
import Derived.Test.YtmmbepdghpjgeaaQ8
section
set_option linter.unusedVariables false
set_option linter.unusedSimpArgs false
set_option maxRecDepth 8000
set_option maxHeartbeats 1000000
namespace Go.Proofs.Ytmmbepdghpjgeaa.Den
open Go Go.RowKit
abbrev En := Con × Ey × Nat
def stE (e : En) : Con × Int := (e.1, e.2.1.1)
def made (e : En) : Int := e.2.1.2
structure Rl (n : Nat) (f : FS) (g : GS) : Prop where
  es : ∃ es : List En, es.Perm f.ents ∧ es.Pairwise (fun a b => made a < made b) ∧ g.all = es.map stE
  rules : g.rules = f.rules
  counts : g.counts = f.counts
  limit : g.limit = f.limit
  life : g.life = f.life
  clock : g.clock = f.clock
  made : ∀ e ∈ f.ents, made e ≤ f.made
  inv : f.Inv n
  lim : 1 ≤ f.limit ∧ f.limit ≤ 100
  nt : ∀ e ∈ f.ents, ∀ e' ∈ f.ents, e'.1 = turned e.1 → e' = e
  len : (f.ents.length : Int) ≤ f.limit
theorem Rl.alen {n : Nat} {f : FS} {g : GS} (h : Rl n f g) : g.all.length = f.ents.length := by
  obtain ⟨es, h1, h2, h3⟩ := h.es
  rw [h3, List.length_map, h1.length_eq]
theorem Rl.ginv {n : Nat} {f : FS} {g : GS} (h : Rl n f g) : g.Inv n := by
  have hi := h.inv
  have ha := h.alen
  have h1 := h.lim
  have h2 := h.len
  exact ⟨by rw [h.life]; exact hi.l1, by rw [h.life]; exact hi.l2, by rw [h.counts, h.rules]; exact hi.cl, by rw [h.counts]; exact hi.cb, by rw [h.rules]; exact hi.rok, by rw [h.rules]; exact hi.rl, by omega, by rw [h.limit]; exact h.lim⟩
theorem Rl.mnd {n : Nat} {f : FS} {g : GS} (h : Rl n f g) : (f.ents.map fun e => e.2.1.2).Nodup := by
  obtain ⟨es, h1, h2, h3⟩ := h.es
  have : (es.map fun e => e.2.1.2).Nodup := List.pairwise_map.2 (h2.imp fun h e => by unfold Den.made at h; omega)
  exact (h1.map _).nodup_iff.1 this
theorem key_inj {l : List En} (hn : (mkeys l).Nodup) {a b : En} (ha : a ∈ l) (hb : b ∈ l) (h : a.1 = b.1) : a = b := by
  obtain ⟨i, hi, e1⟩ := List.getElem_of_mem ha
  obtain ⟨j, hj, e2⟩ := List.getElem_of_mem hb
  have h3 : (mkeys l)[i]'(by simpa [mkeys] using hi) = (mkeys l)[j]'(by simpa [mkeys] using hj) := by
    simp only [mkeys, List.getElem_map, e1, e2]; exact h
  have hij : i = j := nd_inj hn _ _ h3
  subst hij
  rw [← e1, e2]
theorem keys_perm {a b : List En} (h : a.Perm b) : (mkeys a).Nodup ↔ (mkeys b).Nodup := (h.map _).nodup_iff
theorem Rl.expire {n : Nat} {f : FS} {g : GS} (h : Rl n f g) (now : Int) : Rl n (f.expire now) (g.expire now) := by
  obtain ⟨es, h1, h2, h3⟩ := h.es
  refine ⟨⟨es.filter fun e => decide (now < e.2.1.1), h1.filter _, h2.filter _, ?_⟩, h.rules, h.counts, h.limit, h.life, rfl, fun e he => h.made e ((List.mem_filter.1 he).1), h.inv.expire now, h.lim, fun e he e' he' => h.nt e ((List.mem_filter.1 he).1) e' ((List.mem_filter.1 he').1), ?_⟩
  · show g.all.filter _ = _
    rw [h3, List.filter_map]; rfl
  · exact Int.le_trans (Int.ofNat_le.2 (List.length_filter_le _ _)) h.len
def upE (c : Con) (v : Ey) (x : En) : En := if x.1 = c then (c, v, x.2.2) else x
theorem mput_map {c : Con} {v : Ey} {l : List En} {k : Nat} (hn : (mkeys l).Nodup) (hc : c ∈ mkeys l) : mput c v l k = l.map (upE c v) ∧ mclk c l k = k := by
  unfold mput mclk
  cases hf : mfind c l 0 with
  | none =>
    exfalso
    obtain ⟨e, he, h⟩ := List.mem_map.1 hc
    exact mfind_none.1 hf e he h.symm
  | some q =>
    obtain ⟨i, v0⟩ := q
    obtain ⟨_, m, hi⟩ := mfind_some hf
    simp only [Nat.sub_zero] at hi
    refine ⟨?_, rfl⟩
    simp only
    apply List.ext_getElem?
    intro t
    rw [List.getElem?_modify, List.getElem?_map]
    cases hx : l[t]? with
    | none => rfl
    | some x =>
      by_cases ht : i = t
      · subst ht
        rw [hi] at hx; injection hx with hx; subst hx
        simp [upE]
      · have hne : x.1 ≠ c := by
          intro h
          have := key_inj hn (List.mem_of_getElem? hx) (List.mem_of_getElem? hi) h
          subst this
          obtain ⟨a1, a2⟩ := List.getElem?_eq_some_iff.1 hx
          obtain ⟨b1, b2⟩ := List.getElem?_eq_some_iff.1 hi
          have hnd : l.Nodup := List.Pairwise.imp (fun {a b} h e => h (by rw [e])) (List.pairwise_map.1 hn)
          exact ht (nd_inj hnd b1 a1 (by rw [a2, b2]))
        simp [ht, upE, hne]
theorem mget_mem {c : Con} {v : Ey} {l : List En} (h : mget c l = some v) : ∃ e ∈ l, e.1 = c ∧ e.2.1 = v := by
  obtain ⟨n, hm⟩ := mget_some h
  exact ⟨_, hm, rfl, rfl⟩
theorem touch_rl {n : Nat} {f : FS} {g : GS} {p : Pkt} {c : Con} {v : Ey} {x : Int} (h : Rl n f g) (hb : ∀ e ∈ f.ents, bel p e.1 = decide (e.1 = c)) (hv : mget c f.ents = some v) :
    ∃ i, g.all.findIdx? (fun s => bel p s.1) = some i ∧ Rl n (f.put c (x, v.2)) { g with all := g.all.modify i fun s => (s.1, x) } := by
  obtain ⟨es, h1, h2, h3⟩ := h.es
  obtain ⟨e, he, hc, hv2⟩ := mget_mem hv
  have hnd := h.inv.mw.nd
  have hndE := (keys_perm h1).2 hnd
  have heE : e ∈ es := h1.mem_iff.2 he
  obtain ⟨i, hi, hie⟩ := List.getElem_of_mem heE
  have hck : c ∈ mkeys f.ents := List.mem_map.2 ⟨e, he, hc⟩
  obtain ⟨hp1, hp2⟩ := mput_map (v := (x, v.2)) (k := f.mck) hnd hck
  have hmade : ∀ y ∈ f.ents, Den.made (upE c (x, v.2) y) = Den.made y := by
    intro y hy
    unfold upE
    split
    · rename_i hyc
      have := key_inj hnd hy he (hyc.trans hc.symm)
      subst this
      show v.2 = y.2.1.2
      rw [hv2]
    · rfl
  have hkey : ∀ y, (upE c (x, v.2) y).1 = y.1 := by
    intro y; unfold upE; split
    · rename_i h; exact h.symm
    · rfl
  have hput : (f.put c (x, v.2)).ents = f.ents.map (upE c (x, v.2)) := hp1
  have hfi : g.all.findIdx? (fun s => bel p s.1) = some i := by
    rw [List.findIdx?_eq_some_iff_getElem]
    refine ⟨by rw [h3, List.length_map]; exact hi, ?_, fun j hj => ?_⟩
    · simp only [h3, List.getElem_map, stE, hie]
      rw [hb e he, decide_eq_true hc]
    · have hjl : j < es.length := by omega
      simp only [h3, List.getElem_map, stE]
      rw [hb _ (h1.mem_iff.1 (List.getElem_mem hjl))]
      simp only [decide_eq_true_eq]
      intro hjc
      have := key_inj hndE (List.getElem_mem hjl) heE (hjc.trans hc.symm)
      have hndl : es.Nodup := List.Pairwise.imp (fun {a b} h e => h (by rw [e])) (List.pairwise_map.1 hndE)
      have := nd_inj hndl hjl hi (by rw [this, hie])
      omega
  refine ⟨i, hfi, ⟨es.map (upE c (x, v.2)), by rw [hput]; exact h1.map _, ?_, ?_⟩, h.rules, h.counts, h.limit, h.life, h.clock, ?_, ?_, h.lim, ?_, ?_⟩
  · refine List.pairwise_map.2 (List.Pairwise.imp_of_mem (fun {a b} ha hb hab => ?_) h2)
    rw [hmade a (h1.mem_iff.1 ha), hmade b (h1.mem_iff.1 hb)]; exact hab
  · show g.all.modify i _ = _
    rw [h3]
    apply List.ext_getElem?
    intro t
    rw [List.getElem?_modify, List.getElem?_map, List.getElem?_map, List.getElem?_map]
    cases hx : es[t]? with
    | none => rfl
    | some y =>
      by_cases ht : i = t
      · subst ht
        have : y = e := by
          rw [List.getElem?_eq_getElem hi, hie] at hx
          injection hx with hx; exact hx.symm
        subst this
        simp [upE, hc, stE]
      · have hne : y.1 ≠ c := by
          intro hyc
          have := key_inj hndE (List.mem_of_getElem? hx) heE (hyc.trans hc.symm)
          subst this
          obtain ⟨a1, a2⟩ := List.getElem?_eq_some_iff.1 hx
          have hndl : es.Nodup := List.Pairwise.imp (fun {a b} h e => h (by rw [e])) (List.pairwise_map.1 hndE)
          exact ht (nd_inj hndl hi a1 (by rw [a2, hie]))
        simp [ht, upE, hne]
  · intro y hy
    rw [hput] at hy
    obtain ⟨z, hz, rfl⟩ := List.mem_map.1 hy
    rw [hmade z hz]; exact h.made z hz
  · obtain ⟨_, hk2, hk3⟩ := mput_old (v := (x, v.2)) hck h.inv.mw
    exact ⟨h.inv.l1, h.inv.l2, by show MW (mput c (x, v.2) f.ents f.mck) (mclk c f.ents f.mck); rw [hk2]; exact hk3, h.inv.cl, h.inv.cb, h.inv.rok, h.inv.rl, h.inv.m1, h.inv.m2⟩
  · intro a ha b hb2 hab
    rw [hput] at ha hb2
    obtain ⟨y, hy, rfl⟩ := List.mem_map.1 ha
    obtain ⟨z, hz, rfl⟩ := List.mem_map.1 hb2
    rw [hkey, hkey] at hab
    rw [h.nt y hy z hz hab]
  · rw [hput, List.length_map]; exact h.len
theorem erase_key {l : List En} (hn : (mkeys l).Nodup) {i : Nat} {d : En} (h : l[i]? = some d) : (l.filter fun e => decide (e.1 ≠ d.1)) = l.eraseIdx i := by
  rw [← mdel_eq hn]
  unfold mdel
  cases hf : mfind d.1 l 0 with
  | none => exact absurd rfl (mfind_none.1 hf d (List.mem_of_getElem? h))
  | some q =>
    obtain ⟨j, v0⟩ := q
    obtain ⟨_, m, hj⟩ := mfind_some hf
    simp only [Nat.sub_zero] at hj
    simp only
    obtain ⟨a1, a2⟩ := List.getElem?_eq_some_iff.1 h
    obtain ⟨b1, b2⟩ := List.getElem?_eq_some_iff.1 hj
    have h3 : (mkeys l)[j]'(by simpa [mkeys] using b1) = (mkeys l)[i]'(by simpa [mkeys] using a1) := by
      simp only [mkeys, List.getElem_map, a2, b2]
    rw [nd_inj hn _ _ h3]
theorem del_rl {n : Nat} {f : FS} {g : GS} {i : Nat} {d : En} {es : List En} (h : Rl n f g) (h1 : es.Perm f.ents) (h2 : es.Pairwise (fun a b => made a < made b)) (h3 : g.all = es.map stE) (hd : es[i]? = some d) :
    Rl n { f with ents := mdel d.1 f.ents } { g with all := g.all.eraseIdx i } ∧ (mdel d.1 f.ents).length + 1 = f.ents.length := by
  have hnd := h.inv.mw.nd
  have hndE := (keys_perm h1).2 hnd
  have hE := erase_key hndE hd
  have hdel := mdel_eq (x := d.1) hnd
  have hperm : (es.eraseIdx i).Perm (mdel d.1 f.ents) := by rw [hdel, ← hE]; exact h1.filter _
  have hsub : List.Sublist (mdel d.1 f.ents) f.ents := by rw [hdel]; exact List.filter_sublist
  have hil := (List.getElem?_eq_some_iff.1 hd).1
  have hlen : (mdel d.1 f.ents).length + 1 = f.ents.length := by
    rw [← hperm.length_eq, List.length_eraseIdx_of_lt hil, ← h1.length_eq]; omega
  refine ⟨⟨⟨es.eraseIdx i, hperm, h2.sublist (List.eraseIdx_sublist ..), ?_⟩, h.rules, h.counts, h.limit, h.life, h.clock, fun e he => h.made e (hsub.subset he), ?_, h.lim, fun e he e' he' => h.nt e (hsub.subset he) e' (hsub.subset he'), ?_⟩, hlen⟩
  · show g.all.eraseIdx i = _
    rw [h3, eraseIdx_map']
  · exact ⟨h.inv.l1, h.inv.l2, h.inv.mw.del, h.inv.cl, h.inv.cb, h.inv.rok, h.inv.rl, h.inv.m1, h.inv.m2⟩
  · show ((mdel d.1 f.ents).length : Int) ≤ f.limit
    have := h.len; omega
theorem drop_rl {n : Nat} {f : FS} {g : GS} {c : Con} (h : Rl n f g) : (mget c f.ents).isSome = (g.dropR c).1 ∧ Rl n { f with ents := mdel c f.ents } (g.dropR c).2 := by
  obtain ⟨es, h1, h2, h3⟩ := h.es
  unfold GS.dropR
  cases hf : g.all.findIdx? (fun s => decide (s.1 = c)) with
  | none =>
    have hno : c ∉ mkeys f.ents := by
      intro hc
      obtain ⟨e, he, rfl⟩ := List.mem_map.1 hc
      rw [List.findIdx?_eq_none_iff] at hf
      have := hf (stE e) (by rw [h3]; exact List.mem_map.2 ⟨e, h1.mem_iff.2 he, rfl⟩)
      simp [stE] at this
    have hdel : mdel c f.ents = f.ents := by
      rw [mdel_eq h.inv.mw.nd, List.filter_eq_self]
      intro e he
      simp only [decide_eq_true_eq]
      intro hec
      exact hno (List.mem_map.2 ⟨e, he, hec⟩)
    refine ⟨by rw [mget_none.2 hno]; rfl, ?_⟩
    simp only [hdel]; exact h
  | some i =>
    rw [List.findIdx?_eq_some_iff_getElem] at hf
    obtain ⟨hi, hp, _⟩ := hf
    have hil : i < es.length := by rw [h3, List.length_map] at hi; exact hi
    have hd : es[i]? = some es[i] := List.getElem?_eq_getElem hil
    have hc : es[i].1 = c := by
      simp only [h3, List.getElem_map, stE, decide_eq_true_eq] at hp; exact hp
    have := (del_rl h h1 h2 h3 hd).1
    rw [hc] at this
    refine ⟨?_, this⟩
    have hck : c ∈ mkeys f.ents := List.mem_map.2 ⟨_, h1.mem_iff.1 (List.getElem_mem hil), hc⟩
    cases hg : mget c f.ents with
    | none => exact absurd hck (mget_none.1 hg)
    | some v => rfl
theorem oldR_spec : ∀ (l : List (Con × Int)) (pre : List (Con × Int)) (old : Nat) (y : Con × Int), pre[old]? = some y → (∀ (j : Nat) (s : Con × Int), pre[j]? = some s → y.2 ≤ s.2) → (∀ (j : Nat) (s : Con × Int), j < old → pre[j]? = some s → y.2 < s.2) →
    ∃ z, (pre ++ l)[oldR l pre.length old y.2]? = some z ∧ (∀ (j : Nat) (s : Con × Int), (pre ++ l)[j]? = some s → z.2 ≤ s.2) ∧ (∀ (j : Nat) (s : Con × Int), j < oldR l pre.length old y.2 → (pre ++ l)[j]? = some s → z.2 < s.2)
  | [], pre, old, y, h1, h2, h3 => ⟨y, by simpa [oldR] using h1, by simpa using h2, by simpa [oldR] using h3⟩
  | s :: l, pre, old, y, h1, h2, h3 => by
    have e : pre ++ s :: l = (pre ++ [s]) ++ l := by simp
    have hol := (List.getElem?_eq_some_iff.1 h1).1
    have hlen : (pre ++ [s]).length = pre.length + 1 := by simp
    unfold oldR
    by_cases hs : s.2 < y.2
    · rw [if_pos hs, e]
      have := oldR_spec l (pre ++ [s]) pre.length s (by simp) (by
        intro j t ht
        rw [List.getElem?_append] at ht
        split at ht
        · have := h2 j t ht; omega
        · have := List.mem_of_getElem? ht
          rw [List.mem_singleton.1 this]; exact Int.le_refl _) (by
        intro j t hj ht
        rw [List.getElem?_append_left hj] at ht
        have := h2 j t ht; omega)
      rw [hlen] at this; exact this
    · rw [if_neg hs, e]
      have := oldR_spec l (pre ++ [s]) old y (by rw [List.getElem?_append_left hol]; exact h1) (by
        intro j t ht
        rw [List.getElem?_append] at ht
        split at ht
        · exact h2 j t ht
        · have := List.mem_of_getElem? ht
          rw [List.mem_singleton.1 this]; omega) (by
        intro j t hj ht
        rw [List.getElem?_append_left (by omega)] at ht
        exact h3 j t hj ht)
      rw [hlen] at this; exact this
theorem oldI_spec {l : List (Con × Int)} (h : l ≠ []) : ∃ z, l[oldI l]? = some z ∧ (∀ (j : Nat) (s : Con × Int), l[j]? = some s → z.2 ≤ s.2) ∧ ∀ (j : Nat) (s : Con × Int), j < oldI l → l[j]? = some s → z.2 < s.2 := by
  cases l with
  | nil => exact absurd rfl h
  | cons a l =>
    have := oldR_spec l [a] 0 a rfl (by
      intro j s hs
      have := List.mem_of_getElem? hs
      rw [List.mem_singleton.1 this]; exact Int.le_refl _) (by intro j s hj; exact absurd hj (Nat.not_lt_zero _))
    exact this
theorem add_rl {n : Nat} {f : FS} {g : GS} {c : Con} {x : Int} (h : Rl n f g) (h1 : c ∉ mkeys f.ents) (h2 : turned c ∉ mkeys f.ents) (hl : (f.ents.length : Int) + 1 ≤ f.limit) :
    Rl (n + 1) { f.put c (x, f.made + 1) with made := f.made + 1 } { g with all := g.all ++ [(c, x)] } := by
  obtain ⟨es, p1, p2, p3⟩ := h.es
  obtain ⟨m1, m2⟩ := mput_new (v := (x, f.made + 1)) (clock := f.mck) h1
  have hput : ({ f.put c (x, f.made + 1) with made := f.made + 1 } : FS).ents = f.ents ++ [(c, (x, f.made + 1), f.mck)] := m1
  have hck : ({ f.put c (x, f.made + 1) with made := f.made + 1 } : FS).mck = f.mck + 1 := m2
  refine ⟨⟨es ++ [(c, (x, f.made + 1), f.mck)], by rw [hput]; exact p1.append_right _, ?_, ?_⟩, h.rules, h.counts, h.limit, h.life, h.clock, ?_, ?_, h.lim, ?_, ?_⟩
  · rw [List.pairwise_append]
    refine ⟨p2, by simp, ?_⟩
    intro a ha b hb
    rw [List.mem_singleton.1 hb]
    have := h.made a (p1.mem_iff.1 ha)
    show Den.made a < f.made + 1
    omega
  · show g.all ++ _ = _
    rw [p3, List.map_append]; rfl
  · intro e he
    rw [hput] at he
    show Den.made e ≤ f.made + 1
    rcases List.mem_append.1 he with he | he
    · have := h.made e he; omega
    · rw [List.mem_singleton.1 he]; exact Int.le_refl _
  · refine ⟨h.inv.l1, h.inv.l2, by rw [hput, hck]; exact h.inv.mw.put_new h1, h.inv.cl, fun c hc => ?_, h.inv.rok, h.inv.rl, ?_, ?_⟩
    · have := h.inv.cb c hc; omega
    · show 0 ≤ f.made + 1; have := h.inv.m1; omega
    · show f.made + 1 ≤ ((n + 1 : Nat) : Int); have := h.inv.m2; omega
  · intro e he e' he' ht
    rw [hput] at he he'
    rcases List.mem_append.1 he with he | he <;> rcases List.mem_append.1 he' with he' | he'
    · exact h.nt e he e' he' ht
    · rw [List.mem_singleton.1 he'] at ht
      exfalso
      apply h2
      have : e.1 = turned c := by
        have h5 : c = turned e.1 := ht
        rw [h5]; rfl
      exact List.mem_map.2 ⟨e, he, this⟩
    · rw [List.mem_singleton.1 he] at ht
      exfalso
      exact h2 (List.mem_map.2 ⟨e', he', ht⟩)
    · rw [List.mem_singleton.1 he, List.mem_singleton.1 he']
  · rw [hput, List.length_append]
    show ((f.ents.length + 1 : Nat) : Int) ≤ f.limit
    omega
theorem make_rl {n : Nat} {f : FS} {g : GS} {c : Con} {x : Int} (h : Rl n f g) (h1 : c ∉ mkeys f.ents) (h2 : turned c ∉ mkeys f.ents) : Rl (n + 1) (f.make c x) (g.make c x) := by
  have hal := h.alen
  have hlen := h.len
  have hlim := h.lim
  unfold FS.make GS.make
  simp only
  by_cases hfull : f.limit ≤ (f.ents.length : Int)
  · have hg : (g.all.length : Int) = g.limit := by rw [h.limit]; omega
    rw [if_pos hfull, if_pos hg]
    have hne : f.ents ≠ [] := by rintro e; rw [e] at hfull; simp at hfull; omega
    obtain ⟨d, d1, d2, d3⟩ := oldest_some hne
    rw [d1]
    simp only
    obtain ⟨es, p1, p2, p3⟩ := h.es
    have hgne : g.all ≠ [] := by rintro e; rw [e] at hg; simp at hg; rw [h.limit] at hg; omega
    obtain ⟨z, z1, z2, z3⟩ := oldI_spec hgne
    have hd : es[oldI g.all]? = some d := by
      have hil : oldI g.all < es.length := by have := oldI_lt hgne; rw [p3, List.length_map] at this; rw [p3] at *; exact this
      have hx : es[oldI g.all]? = some es[oldI g.all] := List.getElem?_eq_getElem hil
      generalize es[oldI g.all] = y at hx
      have hzy : z = stE y := by
        have : g.all[oldI g.all]? = some (stE y) := by
          conv => lhs; arg 1; rw [p3]
          rw [List.getElem?_map, hx]; rfl
        rw [z1] at this; injection this
      obtain ⟨j, hj, hje⟩ := List.getElem_of_mem (p1.mem_iff.2 d2)
      have hjs : g.all[j]? = some (stE d) := by
        rw [p3, List.getElem?_map, List.getElem?_eq_getElem hj, hje]; rfl
      have hyE : y ∈ f.ents := p1.mem_iff.1 (List.mem_of_getElem? hx)
      have ho := d3 y hyE
      unfold older at ho
      simp only [Bool.or_eq_false_iff, decide_eq_false_iff_not, Bool.and_eq_false_iff] at ho
      have hle := z2 j _ hjs
      rw [hzy] at hle
      simp only [stE] at hle
      have hpw := List.pairwise_iff_getElem.1 p2
      rcases Nat.lt_trichotomy j (oldI g.all) with h5 | h5 | h5
      · have := z3 j _ h5 hjs
        rw [hzy] at this
        simp only [stE] at this
        omega
      · rw [← hje, ← h5]; exact List.getElem?_eq_getElem hj
      · have hlt := hpw _ _ hil hj h5
        have hy2 : es[oldI g.all] = y := by
          rw [List.getElem?_eq_getElem hil] at hx; injection hx
        rw [hje, hy2] at hlt
        unfold Den.made at hlt
        omega
    obtain ⟨hr, hl2⟩ := del_rl h p1 p2 p3 hd
    refine add_rl (f := { f with ents := mdel d.1 f.ents }) (g := { g with all := g.all.eraseIdx (oldI g.all) }) hr (fun hc => h1 ?_) (fun hc => h2 ?_) (by show ((mdel d.1 f.ents).length : Int) + 1 ≤ f.limit; omega)
    · obtain ⟨e, he, hk⟩ := List.mem_map.1 hc
      refine List.mem_map.2 ⟨e, ?_, hk⟩
      have he' : e ∈ mdel d.1 f.ents := he
      rw [mdel_eq h.inv.mw.nd] at he'; exact (List.mem_filter.1 he').1
    · obtain ⟨e, he, hk⟩ := List.mem_map.1 hc
      refine List.mem_map.2 ⟨e, ?_, hk⟩
      have he' : e ∈ mdel d.1 f.ents := he
      rw [mdel_eq h.inv.mw.nd] at he'; exact (List.mem_filter.1 he').1
  · have hg : ¬ (g.all.length : Int) = g.limit := by rw [h.limit]; omega
    rw [if_neg hfull, if_neg hg]
    exact add_rl h h1 h2 (by omega)
end Go.Proofs.Ytmmbepdghpjgeaa.Den
end

section
set_option linter.unusedVariables false
set_option linter.unusedSimpArgs false
set_option maxRecDepth 8000
set_option maxHeartbeats 1000000
namespace Go.Proofs.Ytmmbepdghpjgeaa.Den
open Go Go.RowKit
theorem Rl.mono {n m : Nat} {f : FS} {g : GS} (h : Rl n f g) (hm : n ≤ m) : Rl m f g := by
  have hi := h.inv
  exact ⟨h.es, h.rules, h.counts, h.limit, h.life, h.clock, h.made, ⟨hi.l1, hi.l2, hi.mw, hi.cl, fun c hc => by have := hi.cb c hc; omega, hi.rok, hi.rl, hi.m1, by have := hi.m2; omega⟩, h.lim, h.nt, h.len⟩
theorem count_rl {n : Nat} {f : FS} {g : GS} (h : Rl n f g) (i : Nat) : Rl (n + 1) (f.count i) (g.count i) := by
  have hi := h.inv
  refine ⟨h.es, h.rules, ?_, h.limit, h.life, h.clock, h.made, ⟨hi.l1, hi.l2, hi.mw, ?_, ?_, hi.rok, hi.rl, hi.m1, by show f.made ≤ _; have := hi.m2; omega⟩, h.lim, h.nt, h.len⟩
  · show g.counts.set i _ = f.counts.set i _
    rw [h.counts]
  · show (f.counts.set i _).length = _
    rw [List.length_set]; exact hi.cl
  · intro c hc
    rcases List.mem_or_eq_of_mem_set hc with hc | hc
    · have := hi.cb c hc; omega
    · subst hc
      rw [List.getD_eq_getElem?_getD]
      cases hx : f.counts[i]? with
      | none => simp; omega
      | some x => have := hi.cb x (List.mem_of_getElem? hx); simp only [Option.getD_some]; omega
theorem rule_rl {n : Nat} {f : FS} {g : GS} {p : Pkt} {now : Int} (h : Rl n f g) (h1 : p.con ∉ mkeys f.ents) (h2 : turned p.con ∉ mkeys f.ents) : (f.rule p now).1 = (g.rule p now).1 ∧ Rl (n + 2) (f.rule p now).2 (g.rule p now).2 := by
  unfold FS.rule GS.rule
  simp only [h.rules, h.life]
  by_cases h0 : deciding f.rules p < 0
  · rw [if_pos h0, if_pos h0]
    rcases deciding_lt (l := f.rules) (p := p) with h3 | h3
    · rw [h3]; exact ⟨rfl, h.mono (by omega)⟩
    · omega
  · rw [if_neg h0, if_neg h0]
    cases f.rules[(deciding f.rules p).toNat]? with
    | none => exact ⟨rfl, h.mono (by omega)⟩
    | some r =>
      refine ⟨rfl, ?_⟩
      simp only
      cases (r.keep && p.start) with
      | true =>
        simp only [if_true]
        exact make_rl (count_rl h _) h1 h2
      | false =>
        simp only [Bool.false_eq_true, if_false]
        exact (count_rl h _).mono (by omega)
theorem decide_rl {n : Nat} {f : FS} {g : GS} {p : Pkt} {now : Int} (h : Rl n f g) : (f.decide p now).1 = (g.decide p now).1 ∧ Rl (n + 2) (f.decide p now).2 (g.decide p now).2 := by
  unfold FS.decide GS.decide
  by_cases hc : p.check ≠ 0
  · rw [if_pos hc, if_pos hc]; exact ⟨rfl, h.mono (by omega)⟩
  rw [if_neg hc, if_neg hc]
  by_cases hn : now < 0 ∨ 1099511627776 < now
  · rw [if_pos hn, if_pos hn]; exact ⟨rfl, h.mono (by omega)⟩
  rw [if_neg hn, if_neg hn, h.clock]
  by_cases hk : now < f.clock
  · rw [if_pos hk, if_pos hk]; exact ⟨rfl, h.mono (by omega)⟩
  rw [if_neg hk, if_neg hk]
  have hr := h.expire now
  have hlf : (g.expire now).life = f.life := h.life
  have hlg : g.life = f.life := h.life
  rw [hlg]
  generalize f.expire now = f1 at *
  generalize g.expire now = g1 at *
  have hnd := hr.inv.mw.nd
  cases hg : mget p.con f1.ents with
  | some v =>
    obtain ⟨e0, he0, hk0, _⟩ := mget_mem hg
    have hb : ∀ e ∈ f1.ents, bel p e.1 = decide (e.1 = p.con) := by
      intro e he
      unfold bel
      by_cases h5 : e.1 = p.con
      · rw [decide_eq_true h5, decide_eq_true h5.symm]; rfl
      · rw [decide_eq_false h5, decide_eq_false (fun h => h5 h.symm), decide_eq_false]; rfl
        intro h6
        have := hr.nt e0 he0 e he (by rw [hk0]; exact h6.symm)
        rw [this] at h5; exact h5 hk0
    obtain ⟨i, hi, hR⟩ := touch_rl (x := now + f.life) hr hb hg
    rw [hi]
    exact ⟨rfl, hR.mono (by omega)⟩
  | none =>
    have hno := mget_none.1 hg
    simp only
    cases hg2 : mget (turned p.con) f1.ents with
    | some v =>
      have hb : ∀ e ∈ f1.ents, bel p e.1 = decide (e.1 = turned p.con) := by
        intro e he
        unfold bel
        have h5 : ¬ p.con = e.1 := fun h => hno (List.mem_map.2 ⟨e, he, h.symm⟩)
        rw [decide_eq_false h5, Bool.false_or]
        exact decide_eq_decide.2 ⟨fun h => h.symm, fun h => h.symm⟩
      obtain ⟨i, hi, hR⟩ := touch_rl (x := now + f.life) hr hb hg2
      rw [hi]
      exact ⟨rfl, hR.mono (by omega)⟩
    | none =>
      have hno2 := mget_none.1 hg2
      have hfi : g1.all.findIdx? (fun s => bel p s.1) = none := by
        rw [List.findIdx?_eq_none_iff]
        intro s hs
        obtain ⟨es, p1, p2, p3⟩ := hr.es
        rw [p3] at hs
        obtain ⟨e, he, rfl⟩ := List.mem_map.1 hs
        have heE := p1.mem_iff.1 he
        unfold bel stE
        simp only
        rw [decide_eq_false (fun h => hno (List.mem_map.2 ⟨e, heE, h.symm⟩)), decide_eq_false (fun h => hno2 (List.mem_map.2 ⟨e, heE, h.symm⟩))]; rfl
      rw [hfi]
      exact rule_rl hr hno hno2
theorem sort_uniq {α : Type} {k : α → Int} : ∀ {l1 l2 : List α}, l1.Perm l2 → l1.Pairwise (fun a b => k a < k b) → l2.Pairwise (fun a b => k a < k b) → l1 = l2
  | [], l2, h, _, _ => (List.perm_nil.1 h.symm).symm
  | a :: l1, [], h, _, _ => by have := h.length_eq; simp at this
  | a :: l1, b :: l2, h, h1, h2 => by
    rw [List.pairwise_cons] at h1 h2
    have hab : a = b := by
      have ha : a ∈ b :: l2 := h.mem_iff.1 (by simp)
      have hb : b ∈ a :: l1 := h.mem_iff.2 (by simp)
      rcases List.mem_cons.1 ha with h3 | h3
      · exact h3
      · rcases List.mem_cons.1 hb with h4 | h4
        · exact h4.symm
        · have := h1.1 b h4; have := h2.1 a h3; omega
    subst hab
    rw [sort_uniq (List.perm_cons a |>.1 h) h1.2 h2.2]
theorem states_eq {n : Nat} {f : FS} {g : GS} {xs : List Con} (h : Rl n f g) (hp : xs.Perm (mkeys f.ents)) (hs : xs.Pairwise fun x y => ¬ cmpM (getE f.ents y) (getE f.ents x) < 0) : (xs.map fun x => (x, (getE f.ents x).1)) = g.all := by
  obtain ⟨es, p1, p2, p3⟩ := h.es
  have hnd := h.inv.mw.nd
  have hmn := h.mnd
  have hE : xs = es.map (·.1) := by
    refine sort_uniq (k := fun c => (getE f.ents c).2) (hp.trans (p1.map _).symm) ?_ ?_
    · have hxn : xs.Nodup := hp.nodup_iff.2 hnd
      refine List.Pairwise.imp_of_mem (fun {a b} ha hb hab => ?_) (hs.and hxn)
      obtain ⟨h1, h2⟩ := hab
      rw [cmpM_lt] at h1
      obtain ⟨ea, hea, rfl⟩ := List.mem_map.1 (hp.mem_iff.1 ha)
      obtain ⟨eb, heb, rfl⟩ := List.mem_map.1 (hp.mem_iff.1 hb)
      rw [(getE_mem hnd hea).1, (getE_mem hnd heb).1] at h1 ⊢
      rcases Int.lt_or_lt_of_ne (a := ea.2.1.2) (b := eb.2.1.2) (fun he => h2 (by
        obtain ⟨i, hi, e1⟩ := List.getElem_of_mem hea
        obtain ⟨j, hj, e2⟩ := List.getElem_of_mem heb
        have h3 : (f.ents.map fun e => e.2.1.2)[i]'(by simpa using hi) = (f.ents.map fun e => e.2.1.2)[j]'(by simpa using hj) := by
          rw [List.getElem_map, List.getElem_map, e1, e2]; exact he
        have hij : i = j := nd_inj hmn _ _ h3
        subst hij
        rw [← e1, e2])) with h5 | h5
      · exact h5
      · exact absurd h5 h1
    · refine List.pairwise_map.2 (List.Pairwise.imp_of_mem (fun {a b} ha hb hab => ?_) p2)
      rw [(getE_mem hnd (p1.mem_iff.1 ha)).1, (getE_mem hnd (p1.mem_iff.1 hb)).1]
      exact hab
  rw [hE, p3, List.map_map]
  refine List.map_congr_left fun e he => ?_
  show (e.1, (getE f.ents e.1).1) = stE e
  rw [(getE_mem hnd (p1.mem_iff.1 he)).1]; rfl
theorem new_rl {l : List Rul} {limit life : Int} (hok : ∀ r ∈ l, r.Ok) (he : newErr l limit life = 0) (hlim : 1 ≤ limit ∧ limit ≤ 100) : Rl 0 ⟨l, List.replicate l.length 0, limit, life, [], 0, 0, 0⟩ ⟨l, List.replicate l.length 0, limit, life, [], 0⟩ :=
  ⟨⟨[], List.Perm.refl _, List.Pairwise.nil, rfl⟩, rfl, rfl, rfl, rfl, rfl, by simp, newFS_inv hok he, hlim, by simp, by show ((0 : Nat) : Int) ≤ limit; omega⟩
theorem newErr_lim {l : List Rul} {limit life : Int} (he : newErr l limit life = 0) : 1 ≤ limit ∧ limit ≤ 100 := by
  unfold newErr at he
  split at he
  · rename_i h; exact absurd he h
  · split at he
    · cases he
    · rename_i h1
      simp only [Bool.or_eq_true, Bool.not_eq_true', decide_eq_true_eq, not_or, Bool.not_eq_false] at h1
      obtain ⟨⟨h1, _⟩, _⟩ := h1
      unfold inn at h1
      simpa using h1
end Go.Proofs.Ytmmbepdghpjgeaa.Den
end

section
set_option linter.unusedVariables false
set_option linter.unusedSimpArgs false
set_option maxRecDepth 8000
set_option maxHeartbeats 1000000
namespace Go.Proofs.Ytmmbepdghpjgeaa.Den
open Go Go.RowKit
structure Cal where
  p : Pkt
  now : Int
  drop : Bool
def Cal.enc (c : Cal) : List Value := [I c.p.dir, I c.p.ifc, U32 c.p.src, U32 c.p.dst, I c.p.proto, I c.p.fr, I c.p.to, .bool c.p.start, I c.now, .bool c.drop]
def cCal : Cod Cal := ⟨10, Cal.enc, fun _ => rfl, by intro r c hc; simp only [Cal.enc, List.mem_cons, List.not_mem_nil, or_false] at hc; rcases hc with rfl | rfl | rfl | rfl | rfl | rfl | rfl | rfl | rfl | rfl <;> rfl⟩
theorem FS.make_keep (f : FS) (c : Con) (x : Int) : (f.make c x).rules = f.rules ∧ (f.make c x).limit = f.limit := by
  unfold FS.make
  simp only
  split
  · cases oldest f.ents <;> exact ⟨rfl, rfl⟩
  · exact ⟨rfl, rfl⟩
theorem FS.decide_keep (f : FS) (p : Pkt) (now : Int) : (f.decide p now).2.rules = f.rules ∧ (f.decide p now).2.limit = f.limit := by
  unfold FS.decide
  split
  · exact ⟨rfl, rfl⟩
  split
  · exact ⟨rfl, rfl⟩
  split
  · exact ⟨rfl, rfl⟩
  cases mget p.con (f.expire now).ents with
  | some v => exact ⟨rfl, rfl⟩
  | none =>
    simp only
    cases mget (turned p.con) (f.expire now).ents with
    | some v => exact ⟨rfl, rfl⟩
    | none =>
      simp only
      unfold FS.rule
      simp only
      split
      · exact ⟨rfl, rfl⟩
      · split
        · exact ⟨rfl, rfl⟩
        · simp only
          split
          · exact FS.make_keep _ _ _
          · exact ⟨rfl, rfl⟩
section
variable {w w' w0 : World} {L L' F cs cs2 A X Y cc cr ca cg E : List Chunk} {s s2 sr sc sa gsr gsa gsc : Value} {K : VK} {R : ER} {b i j gb fb mb n b4 : Nat} {f : FS} {g : GS} {p : Pkt} {now life : Int}
theorem tail_law {Q : ER} {k1 : V6} {x63 x64 : Value} (h : Rl n f g) (hc : TS cI 2 sc f.counts cc) (hg : TS cI 2 gsc g.counts cg) (ha : TS cSt 87 gsa g.all ca) (hi2 : i < 100)
    (hE : Has E b4 (.t 76) [I f.limit, I life]) (H : Hp w0 w (f.mem fb mb sr sc (cc ++ g.mem gb gsr gsa gsc (ca ++ (cg ++ E)))))
    (k : ∀ w', Hp w0 w' (f.mem fb mb sr sc (cc ++ g.mem gb gsr gsa gsc (ca ++ (cg ++ E)))) → k1 (ptr b4 0) (ptr fb 0) (ptr gb 0) x63 x64 (I ((i + 1 : Nat) : Int)) w') :
    F9_j10 Q k1 (ptr b4 0) (ptr fb 0) (ptr gb 0) x63 x64 (I (i : Int)) w := by
  have hgb : Has (f.mem fb mb sr sc (cc ++ g.mem gb gsr gsa gsc (ca ++ (cg ++ E)))) gb (.t 95) [gsr, I g.limit, I g.life, gsa, gsc, I g.clock] := by unfold Has FS.mem GS.mem; simp
  have hb4 : Has (f.mem fb mb sr sc (cc ++ g.mem gb gsr gsa gsc (ca ++ (cg ++ E)))) b4 (.t 76) [I f.limit, I life] := Has.cons (Has.cons (Has.app (Has.cons (Has.app (Has.app hE)))))
  have mcc : ∀ c ∈ cc, c ∈ cc ++ g.mem gb gsr gsa gsc (ca ++ (cg ++ E)) := fun c hc => List.mem_append_left _ hc
  have mca : ∀ c ∈ ca, c ∈ f.mem fb mb sr sc (cc ++ g.mem gb gsr gsa gsc (ca ++ (cg ++ E))) := fun c hc => List.mem_cons_of_mem _ (List.mem_cons_of_mem _ (List.mem_append_right _ (List.mem_cons_of_mem _ (List.mem_append_left _ hc))))
  have mcg : ∀ c ∈ cg, c ∈ f.mem fb mb sr sc (cc ++ g.mem gb gsr gsa gsc (ca ++ (cg ++ E))) := fun c hc => List.mem_cons_of_mem _ (List.mem_cons_of_mem _ (List.mem_append_right _ (List.mem_cons_of_mem _ (List.mem_append_right _ (List.mem_append_left _ hc)))))
  generalize hG : cc ++ g.mem gb gsr gsa gsc (ca ++ (cg ++ E)) = G at *
  have hcl := h.inv.cl
  have hrl := h.inv.rl
  have hlen := h.len
  have hlim := h.lim
  have hents : f.ents.length ≤ 4000 := by omega
  unfold F9_j10
  refine drew_k H fun w H => ?_
  have c0 : w.cell? ⟨gb, 4, none⟩ = some gsc := H.cellM hgb rfl
  (try simp only [W0])
  refine cal_h (counts_spec hc.tr mcc (by omega) H) ?_
  rintro _ w ⟨s', c1, rfl, h1, H⟩
  (try simp only [W0])
  refine ldS_m H (Has.app hgb) (o := 4) (v := gsc) rfl (by intro z hz; rw [List.mem_singleton.1 hz]; exact c0) ?_
  refine cal_h (eq64_spec h1.tr hg.tr h.counts.symm (by omega) H (fun c hc => List.mem_append_left _ hc) (fun c hc => List.mem_append_right _ (mcg c hc))) ?_
  rintro _ w ⟨rfl, H⟩
  have c2 : w.cell? ⟨gb, 3, none⟩ = some gsa := H.cellM (Has.app hgb) rfl
  (try simp only [W0])
  refine cal_h (states_spec (F := G) h.inv.mw hents H.right) ?_
  rintro _ w ⟨s2, xs, k2, rfl, H, h6, hpm, hpw⟩
  (try simp only [W0])
  refine ldS_m H (Has.app hgb) (o := 3) (v := gsa) rfl (by intro z hz; rw [List.mem_singleton.1 hz]; exact c2) ?_
  have hxl : xs.length = f.ents.length := by rw [hpm.length_eq]; unfold mkeys; rw [List.length_map]
  refine cal_h (eqf_spec h6.tr ha.tr (states_eq h hpm hpw) (by rw [List.length_map]; omega) H (fun c hc => List.mem_append_left _ hc) (fun c hc => List.mem_append_right _ (mca c hc))) ?_
  rintro _ w ⟨rfl, H⟩
  have c3 : w.cell? ⟨b4, 0, none⟩ = some (I f.limit) := H.cellM (Has.app hb4) rfl
  (try simp only [W0])
  refine cal_h (states_spec (F := G) h.inv.mw hents H.right) ?_
  rintro _ w ⟨s3, ys, k3, rfl, H, h7, hpm2, _⟩
  have hyl : ys.length = f.ents.length := by rw [hpm2.length_eq]; unfold mkeys; rw [List.length_map]
  (try simp only [W0])
  refine pv_of (lenS_ts h7) ?_
  (try simp only [W0])
  refine ldS_m H (Has.app hb4) (o := 0) (v := I f.limit) rfl (by intro z hz; rw [List.mem_singleton.1 hz]; exact c3) ?_
  rw [List.length_map, hyl]
  refine gtr_n (by omega) ?_
  (try simp only [W0])
  unfold F9_j8
  refine add_k (z := ((i + 1 : Nat) : Int)) (by omega) (by omega) (by omega) ?_
  exact k w H.right
end
end Go.Proofs.Ytmmbepdghpjgeaa.Den
end

section
set_option linter.unusedVariables false
set_option linter.unusedSimpArgs false
set_option maxRecDepth 8000
set_option maxHeartbeats 1000000
namespace Go.Proofs.Ytmmbepdghpjgeaa.Den
open Go Go.RowKit
section
variable {w w' w0 : World} {L L' F cs cs2 A X Y cc cr ca cg E gcr : List Chunk} {s s2 sr sc sa gsr gsa gsc : Value} {K : VK} {R : ER} {b i j gb fb mb n b4 bp bc : Nat} {f : FS} {g : GS} {p : Pkt} {now life : Int} {c : Cal}
theorem drop_round {Q : ER} {k1 : V6} {x63 x64 : Value} (h : Rl n f g) (hc : TS cI 2 sc f.counts cc) (hg : TS cI 2 gsc g.counts cg) (ha : TS cSt 87 gsa g.all ca) (hi2 : i < 100) (hgsr : scalar gsr = true)
    (hE : Has E b4 (.t 76) [I f.limit, I life]) (hbp : Has E bp (.t 45) c.p.enc) (hbc : Has E bc (.t 82) c.enc) (H : Hp w0 w (f.mem fb mb sr sc (cc ++ g.mem gb gsr gsa gsc (ca ++ (cg ++ E)))))
    (k : ∀ (w' : World) (f' : FS) (g' : GS) (gsa' : Value) (cc' ca' cg' : List Chunk), Rl (n + 2) f' g' → f'.rules = f.rules → f'.limit = f.limit → TS cI 2 sc f'.counts cc' → TS cI 2 gsc g'.counts cg' → TS cSt 87 gsa' g'.all ca' → Hp w0 w' (f'.mem fb mb sr sc (cc' ++ g'.mem gb gsr gsa' gsc (ca' ++ (cg' ++ E)))) → k1 (ptr b4 0) (ptr fb 0) (ptr gb 0) x63 x64 (I ((i + 1 : Nat) : Int)) w') :
    F9_j13 Q k1 (ptr b4 0) (ptr fb 0) (ptr gb 0) (ptr bc 0) (ptr bp 0) x63 x64 (I (i : Int)) w := by
  have up : ∀ {f : FS} {g : GS} {E : List Chunk} {cc ca cg : List Chunk} {gsa : Value} {b : Nat} {t : TypeId} {l : List Value}, Has E b (.t t) l → Has (f.mem fb mb sr sc (cc ++ g.mem gb gsr gsa gsc (ca ++ (cg ++ E)))) b (.t t) l := fun h => Has.cons (Has.cons (Has.app (Has.cons (Has.app (Has.app h)))))
  have hgs : scalar gsc = true := hg.sc
  unfold F9_j13
  (try simp only [W0])
  refine ld_m H (up hbp) (o := 4) (v := I c.p.proto) rfl ?_
  (try simp only [W0])
  refine ld_m H (up hbp) (o := 2) (v := U32 c.p.src) rfl ?_
  (try simp only [W0])
  refine ld_m H (up hbp) (o := 3) (v := U32 c.p.dst) rfl ?_
  (try simp only [W0])
  refine ld_m H (up hbp) (o := 5) (v := I c.p.fr) rfl ?_
  (try simp only [W0])
  refine ld_m H (up hbp) (o := 6) (v := I c.p.to) rfl ?_
  (try simp only [W0])
  refine ld_m H (up hbc) (o := 8) (v := I c.now) rfl ?_
  refine bld_a ?_
  refine al_m (ys := cSt.enc ((0, 0, 0, 0, 0), 0)) H (by kernel_rfl) fun w b5 H => ?_
  refine stA_m (vs := cSt.enc (c.p.con, c.now)) H Upd.here rfl rfl (cSt.sc _) fun w H => ?_
  replace H : Hp w0 w (f.mem fb mb sr sc (cc ++ g.mem gb gsr gsa gsc (ca ++ (cg ++ (⟨b5, .t 84, cSt.enc (c.p.con, c.now)⟩ :: E))))) := H.to fun q => by simp only [FS.mem, GS.mem, List.map_append, List.map_cons, List.sum_append, List.sum_cons]; omega
  refine drew_k H fun w H => ?_
  refine ldA_m (l := cSt.enc (c.p.con, c.now)) H (up Has.here) rfl ?_
  have c1 : cellsAt w ⟨b5, 0, none⟩ 0 6 = some (cSt.enc (c.p.con, c.now)) := H.cellsM (up Has.here) rfl
  (try simp only [W0])
  refine cal_h (drop_spec H) ?_
  rintro _ w ⟨rfl, H⟩
  obtain ⟨e1, hR⟩ := drop_rl (c := c.p.con) h
  (try simp only [W0])
  refine ldNS_m (l := cSt.enc (c.p.con, c.now)) H (up Has.here) rfl (by intro z hz; rw [List.mem_singleton.1 hz]; exact c1) ?_
  refine cal_h (state39_spec H) ?_
  rintro _ w ⟨rfl, H⟩
  replace H : Hp w0 w (g.mem gb gsr gsa gsc (ca ++ (({ f with ents := mdel c.p.con f.ents } : FS).mem fb mb sr sc (cc ++ (cg ++ (⟨b5, .t 84, cSt.enc (c.p.con, c.now)⟩ :: E)))))) := H.to fun q => by simp only [FS.mem, GS.mem, List.map_append, List.map_cons, List.sum_append, List.sum_cons]; omega
  (try simp only [W0])
  refine cal_h (gdrop_spec (by have := h.ginv.al; omega) hgsr hgs ha H) ?_
  rintro _ w ⟨gsa', ca', rfl, ha', H⟩
  rw [e1]
  (try simp only [W0])
  have hb : binB .neq (.bool (g.dropR c.p.con).1) (.bool (g.dropR c.p.con).1) = some (.bool false) := by cases (g.dropR c.p.con).1 <;> rfl
  refine pv_of hb ?_
  (try simp only [W0])
  have hct : (g.dropR c.p.con).2.counts = g.counts := hR.counts.trans h.counts.symm
  have H2 : Hp w0 w (({ f with ents := mdel c.p.con f.ents } : FS).mem fb mb sr sc (cc ++ (g.dropR c.p.con).2.mem gb gsr gsa' gsc (ca' ++ (cg ++ E)))) := H.to fun q => by simp only [FS.mem, GS.mem, List.map_append, List.map_cons, List.sum_append, List.sum_cons]; omega
  refine tail_law (f := { f with ents := mdel c.p.con f.ents }) (E := E) (cg := cg) hR (by exact hc) (by rw [hct]; exact hg) ha' hi2 hE H2 fun w H => ?_
  exact k w _ _ _ _ _ _ (hR.mono (by omega)) rfl rfl hc (by rw [hct]; exact hg) ha' H
theorem decide_round {Q : ER} {k1 : V6} {x63 x64 : Value} (h : Rl n f g) (hn : n < 2 ^ 50) (hp : c.p.Ok) (hr : TR cRul w0 cr sr f.rules) (hgr : TR cRul w0 gcr gsr f.rules) (m1 : ∀ x ∈ cr, x ∈ E) (m2 : ∀ x ∈ gcr, x ∈ E) (hc : TS cI 2 sc f.counts cc) (hg : TS cI 2 gsc g.counts cg) (ha : TS cSt 87 gsa g.all ca) (hi2 : i < 100)
    (hE : Has E b4 (.t 76) [I f.limit, I life]) (hbp : Has E bp (.t 45) c.p.enc) (hbc : Has E bc (.t 82) c.enc) (H : Hp w0 w (f.mem fb mb sr sc (cc ++ g.mem gb gsr gsa gsc (ca ++ (cg ++ E)))))
    (k : ∀ (w' : World) (f' : FS) (g' : GS) (gsa' : Value) (cc' ca' cg' : List Chunk), Rl (n + 2) f' g' → f'.rules = f.rules → f'.limit = f.limit → TS cI 2 sc f'.counts cc' → TS cI 2 gsc g'.counts cg' → TS cSt 87 gsa' g'.all ca' → Hp w0 w' (f'.mem fb mb sr sc (cc' ++ g'.mem gb gsr gsa' gsc (ca' ++ (cg' ++ E)))) → k1 (ptr b4 0) (ptr fb 0) (ptr gb 0) x63 x64 (I ((i + 1 : Nat) : Int)) w') :
    F9_j14 Q k1 (ptr b4 0) (ptr fb 0) (ptr gb 0) (ptr bc 0) (ptr bp 0) x63 x64 (I (i : Int)) w := by
  have up : ∀ {f : FS} {g : GS} {E : List Chunk} {cc ca cg : List Chunk} {gsa : Value} {b : Nat} {t : TypeId} {l : List Value}, Has E b (.t t) l → Has (f.mem fb mb sr sc (cc ++ g.mem gb gsr gsa gsc (ca ++ (cg ++ E)))) b (.t t) l := fun h => Has.cons (Has.cons (Has.app (Has.cons (Has.app (Has.app h)))))
  have hgs : scalar gsc = true := hg.sc
  unfold F9_j14
  refine ldA_m (l := c.p.enc) H (up hbp) rfl ?_
  (try simp only [W0])
  refine ld_m H (up hbc) (o := 8) (v := I c.now) rfl ?_
  have hx := h.expire c.now
  refine cal_h (decide_spec (F := g.mem gb gsr gsa gsc (ca ++ (cg ++ E))) h.inv (by omega) hp hr (fun x hx => List.mem_cons_of_mem _ (List.mem_append_right _ (List.mem_append_right _ (m1 x hx)))) hc (fun r _ _ _ => make_ok (f := (f.expire c.now).count _) hx.inv.mw hx.mnd (by have := hx.len; have := hx.lim; show (f.expire c.now).ents.length ≤ 4000; omega) hx.lim.1 hx.inv.m1 (by have := hx.inv.m2; show (f.expire c.now).made < 2 ^ 60; omega) _ _) H) ?_
  rintro _ w ⟨cc', rfl, hc', H⟩
  obtain ⟨e1, hR⟩ := decide_rl (p := c.p) (now := c.now) h
  obtain ⟨k1', k2'⟩ := FS.decide_keep f c.p c.now
  rw [e1]
  generalize (f.decide c.p c.now).2 = f' at *
  (try simp only [W0])
  refine drew_k H fun w H => ?_
  refine ldA_m (l := c.p.enc) H (up hbp) rfl ?_
  have c1 : w.cell? ⟨bc, 8, none⟩ = some (I c.now) := H.cellM (up hbc) rfl
  (try simp only [W0])
  refine cal_h (packet39_spec H) ?_
  rintro _ w ⟨rfl, H⟩
  (try simp only [W0])
  refine ldS_m H (up hbc) (o := 8) (v := I c.now) rfl (by intro z hz; rw [List.mem_singleton.1 hz]; exact c1) ?_
  replace H : Hp w0 w (g.mem gb gsr gsa gsc (ca ++ (cg ++ (f'.mem fb mb sr sc (cc' ++ E))))) := H.to fun q => by simp only [FS.mem, GS.mem, List.map_append, List.map_cons, List.sum_append, List.sum_cons]; omega
  refine cal_h (gFdecide_spec (F := f'.mem fb mb sr sc (cc' ++ E)) h.ginv (by omega) hp (by rw [h.rules]; exact hgr) (fun x hx => List.mem_cons_of_mem _ (List.mem_cons_of_mem _ (List.mem_append_right _ (m2 x hx)))) hg ha H) ?_
  rintro _ w ⟨gsa', ca', cg', rfl, ha', hg', H⟩
  (try simp only [W0])
  refine neq_n (fun h => h rfl) ?_
  (try simp only [W0])
  refine neq_n (fun h => h rfl) ?_
  (try simp only [W0])
  refine neq_n (fun h => h rfl) ?_
  (try simp only [W0])
  have H2 : Hp w0 w (f'.mem fb mb sr sc (cc' ++ (g.decide c.p c.now).2.mem gb gsr gsa' gsc (ca' ++ (cg' ++ E)))) := H.to fun q => by simp only [FS.mem, GS.mem, List.map_append, List.map_cons, List.sum_append, List.sum_cons]; omega
  refine tail_law (E := E) hR hc' hg' ha' hi2 (by rw [k2']; exact hE) H2 fun w H => ?_
  exact k w _ _ _ _ _ _ hR k1' k2' hc' hg' ha' H
end
end Go.Proofs.Ytmmbepdghpjgeaa.Den
end

section
set_option linter.unusedVariables false
set_option linter.unusedSimpArgs false
set_option maxRecDepth 8000
set_option maxHeartbeats 1000000
namespace Go.Proofs.Ytmmbepdghpjgeaa.Den
open Go Go.RowKit
section
variable {w w' w0 : World} {L L' F cs cs2 A X Y cc cr ca cg E gcr : List Chunk} {s s2 sr sc sa gsr gsa gsc : Value} {K : VK} {R : ER} {b i j gb fb mb n b4 bp bc : Nat} {f : FS} {g : GS} {p : Pkt} {now limit life : Int} {c : Cal}
theorem calls_loop {Q : ER} {l : List Rul} {calls : List Cal} (hn2 : calls.length ≤ 40) (hcl : TR cCal w0 cs2 s2 calls) (hpk : ∀ c ∈ calls, c.p.Ok) (m2 : ∀ c ∈ cs2, c ∈ E) (hr : TR cRul w0 cr sr l) (hgr : TR cRul w0 gcr gsr l) (m3 : ∀ x ∈ cr, x ∈ E) (m4 : ∀ x ∈ gcr, x ∈ E)
    (hE : Has E b4 (.t 76) [I limit, I life])
    (h0 : Rl 0 f g) (hrl : f.rules = l) (hlm : f.limit = limit) (hc0 : TS cI 2 sc f.counts cc) (hg0 : TS cI 2 gsc g.counts cg) (ha0 : TS cSt 87 gsa g.all ca) (H : Hp w0 w (f.mem fb mb sr sc (cc ++ g.mem gb gsr gsa gsc (ca ++ (cg ++ E)))))
    (hQ : ∀ w', Hp w0 w' E → Q (.returned (.bool true)) w') :
    F9_j2 Q s2 (ptr b4 0) (ptr fb 0) (I 0) (ptr gb 0) w := by
  unfold F9_j2
  refine neq_n (fun h => h rfl) ?_
  (try simp only [W0])
  unfold F9_j3 F9_j5
  refine pv_of (lenS_tr hcl) ?_
  unfold F9_j6
  refine loop6 (F9_l1_succ _) (fun m x4 x7 x9 x63 x64 x65 w => ∃ (i : Nat) (f : FS) (g : GS) (gsa : Value) (cc ca cg : List Chunk), x4 = ptr b4 0 ∧ x7 = ptr fb 0 ∧ x9 = ptr gb 0 ∧ s2 = x63 ∧ x64 = I (calls.length : Int) ∧ x65 = I (i : Int) ∧ m + i = calls.length ∧ Rl (2 * i) f g ∧ f.rules = l ∧ f.limit = limit ∧
    TS cI 2 sc f.counts cc ∧ TS cI 2 gsc g.counts cg ∧ TS cSt 87 gsa g.all ca ∧ Hp w0 w (f.mem fb mb sr sc (cc ++ g.mem gb gsr gsa gsc (ca ++ (cg ++ E))))) ?_ (m := calls.length) ⟨0, f, g, gsa, cc, ca, cg, rfl, rfl, rfl, rfl, rfl, rfl, rfl, h0, hrl, hlm, hc0, hg0, ha0, H⟩
  clear H h0 hc0 hg0 ha0 hrl hlm
  rintro m k _ _ _ _ _ _ w ⟨i, f, g, gsa, cc, ca, cg, rfl, rfl, rfl, rfl, rfl, rfl, hm, h, hrl, hlm, hc, hg, ha, H⟩ hk
  unfold F9_b1
  refine lss_k (fun hi => ?_) (fun hi => ?_)
  · (try simp only [W0])
    have hx : calls[i]? = some calls[i] := List.getElem?_eq_getElem (by omega)
    generalize calls[i] = c at hx
    have hp := hpk c (List.mem_of_getElem? hx)
    unfold F9_j7 F9_j9
    refine ixN_t (C := cCal) hcl H (fun x hx => List.mem_cons_of_mem _ (List.mem_cons_of_mem _ (List.mem_append_right _ (List.mem_cons_of_mem _ (List.mem_append_right _ (List.mem_append_right _ (m2 x hx))))))) hx (by decide) ?_
    refine al_m (ys := Cal.enc ⟨pkt0, 0, false⟩) H (by kernel_rfl) fun w b5 H => ?_
    refine stA_m (vs := c.enc) H Upd.here rfl rfl (cCal.sc c) fun w H => ?_
    (try simp only [W0])
    refine ldP_m (o := 0) (n := 8) (ys := c.p.enc) H Has.here (Nat.le_of_ble_eq_true rfl) rfl ?_
    refine al_m (ys := pkt0.enc) H (by kernel_rfl) fun w b6 H => ?_
    refine stA_m (vs := c.p.enc) H Upd.here rfl rfl (by exact Pkt.enc_sc _) fun w H => ?_
    unfold F9_j11
    (try simp only [W0])
    refine ld_m H (Has.cons Has.here) (o := 9) (v := .bool c.drop) rfl ?_
    unfold F9_j12
    have H2 : Hp w0 w (f.mem fb mb sr sc (cc ++ g.mem gb gsr gsa gsc (ca ++ (cg ++ (⟨b6, .t 45, c.p.enc⟩ :: ⟨b5, .t 82, c.enc⟩ :: E))))) := H.to fun q => by simp only [FS.mem, GS.mem, List.map_append, List.map_cons, List.sum_append, List.sum_cons]; omega
    have next : ∀ (w' : World) (f' : FS) (g' : GS) (gsa' : Value) (cc' ca' cg' : List Chunk), Rl (2 * i + 2) f' g' → f'.rules = f.rules → f'.limit = f.limit → TS cI 2 sc f'.counts cc' → TS cI 2 gsc g'.counts cg' → TS cSt 87 gsa' g'.all ca' → Hp w0 w' (f'.mem fb mb sr sc (cc' ++ g'.mem gb gsr gsa' gsc (ca' ++ (cg' ++ (⟨b6, .t 45, c.p.enc⟩ :: ⟨b5, .t 82, c.enc⟩ :: E))))) → k (ptr b4 0) (ptr fb 0) (ptr gb 0) s2 (I (calls.length : Int)) (I ((i + 1 : Nat) : Int)) w' := by
      intro w' f' g' gsa' cc' ca' cg' hR k1 k2 hc' hg' ha' H
      refine hk (m - 1) _ _ _ _ _ _ _ (by omega) ⟨i + 1, f', g', gsa', cc', ca', cg', rfl, rfl, rfl, rfl, rfl, rfl, by omega, hR.mono (by omega), k1.trans hrl, k2.trans hlm, hc', hg', ha', H.to fun q => ?_⟩
      simp only [FS.mem, GS.mem, List.map_append, List.map_cons, List.sum_append, List.sum_cons]; omega
    have hE2 : Has (⟨b6, .t 45, c.p.enc⟩ :: ⟨b5, .t 82, c.enc⟩ :: E) b4 (.t 76) [I f.limit, I life] := by rw [hlm]; exact Has.cons (Has.cons hE)
    cases hd : c.drop with
    | true =>
      (try simp only [W0])
      exact drop_round h hc hg ha (by omega) hgr.sc hE2 Has.here (Has.cons Has.here) H2 next
    | false =>
      (try simp only [W0])
      exact decide_round h (by omega) hp (by rw [hrl]; exact hr) (by rw [hrl]; exact hgr) (fun x hx => List.mem_cons_of_mem _ (List.mem_cons_of_mem _ (m3 x hx))) (fun x hx => List.mem_cons_of_mem _ (List.mem_cons_of_mem _ (m4 x hx))) hc hg ha (by omega) hE2 Has.here (Has.cons Has.here) H2 next
  · (try simp only [W0])
    unfold F9_j4
    refine cal_h (awake_spec H) ?_
    rintro _ w ⟨rfl, H⟩
    (try simp only [W0])
    refine hQ w (H.to fun q => ?_)
    simp only [FS.mem, GS.mem, List.map_append, List.map_cons, List.sum_append, List.sum_cons]; omega
theorem decides_law {l : List Rul} {calls : List Cal} (hl : TR cRul w0 cs s l) (hcl : TR cCal w0 cs2 s2 calls) (hok : ∀ r ∈ l, r.Ok) (hpk : ∀ c ∈ calls, c.p.Ok) (H : Hp w0 w L) (m1 : ∀ c ∈ cs, c ∈ L) (m2 : ∀ c ∈ cs2, c ∈ L) :
    Calls Pg 9 ⟨[s, .agg ⟨[I limit, I life]⟩, s2]⟩ w fun e w' => e = .returned (.bool true) ∧ Hp w0 w' L := by
  generalize hQ : (fun (e : Ending) (w' : World) => e = .returned (.bool true) ∧ Hp w0 w' L : ER) = Q
  have aw : ∀ {K : VK} w A, Hp w0 w (A ++ L) → (∀ w', Hp w0 w' L → K (.bool true) w') → cal Pg Q 10 ⟨[]⟩ K w := by
    intro K w A H g
    refine cal_h (awake_spec H) ?_
    rintro _ w ⟨rfl, H⟩
    exact g w H.right
  have fin : ∀ w, Hp w0 w L → Q (.returned (.bool true)) w := by intro w H; subst hQ; exact ⟨rfl, H⟩
  apply F9_calls
  unfold F9
  refine bx_m (vs := [I limit, I life]) H fun w b4 H => ?_
  refine pv_of (lenS_tr hl) ?_
  refine gtr_k (fun h20 => ?_) (fun h20 => ?_)
  · (try simp only [W0])
    refine aw w [⟨b4, .t 76, [I limit, I life]⟩] H fun w H => ?_
    (try simp only [W0])
    exact fin w H
  (try simp only [W0])
  refine pv_of (lenS_tr hcl) ?_
  refine gtr_k (fun h40 => ?_) (fun h40 => ?_)
  · (try simp only [W0])
    refine aw w [⟨b4, .t 76, [I limit, I life]⟩] H fun w H => ?_
    (try simp only [W0])
    exact fin w H
  (try simp only [W0])
  unfold F9_j1
  refine drew_k H fun w H => ?_
  have c0 : w.cell? ⟨b4, 0, none⟩ = some (I limit) := H.cellM (t := 76) (l := [I limit, I life]) Has.here rfl
  have c1 : w.cell? ⟨b4, 1, none⟩ = some (I life) := H.cellM (t := 76) (l := [I limit, I life]) Has.here rfl
  (try simp only [W0])
  refine cal_h (cloneRul_spec hl H (fun c hc => List.mem_cons_of_mem _ (m1 c hc)) (by omega)) ?_
  rintro _ w ⟨s1, k1, rfl, H, h1⟩
  (try simp only [W0])
  refine ldS_m H (Has.app Has.here) (o := 0) (v := I limit) rfl (by intro z hz; rw [List.mem_singleton.1 hz]; exact c0) ?_
  (try simp only [W0])
  refine ldS_m H (Has.app Has.here) (o := 1) (v := I life) rfl (by intro z hz; rw [List.mem_singleton.1 hz]; exact c1) ?_
  by_cases he : newErr l limit life = 0
  · refine cal_h (new_ok h1.tr hok H (fun c hc => List.mem_append_left _ hc) he (by omega)) ?_
    rintro _ w ⟨fb, mb, sr, sc, cr, cc, rfl, hr, hc, H⟩
    (try simp only [W0])
    refine drew_k H fun w H => ?_
    have hb : ∀ {x y : Chunk} {A B C : List Chunk}, Has (x :: y :: (A ++ (B ++ (C ++ (⟨b4, .t 76, [I limit, I life]⟩ :: L))))) b4 (.t 76) [I limit, I life] := fun {x y A B C} => Has.cons (Has.cons (Has.app (Has.app (Has.app Has.here))))
    have c2 : w.cell? ⟨b4, 0, none⟩ = some (I limit) := H.cellM hb rfl
    have c3 : w.cell? ⟨b4, 1, none⟩ = some (I life) := H.cellM hb rfl
    (try simp only [W0])
    refine cal_h (rules39_spec hl (by omega) H (fun c hc => List.mem_cons_of_mem _ (List.mem_cons_of_mem _ (List.mem_append_right _ (List.mem_append_right _ (List.mem_append_right _ (List.mem_cons_of_mem _ (m1 c hc)))))))) ?_
    rintro _ w ⟨s5, k5, rfl, h5, H⟩
    (try simp only [W0])
    refine ldS_m H (Has.app hb) (o := 0) (v := I limit) rfl (by intro z hz; rw [List.mem_singleton.1 hz]; exact c2) ?_
    (try simp only [W0])
    refine ldS_m H (Has.app hb) (o := 1) (v := I life) rfl (by intro z hz; rw [List.mem_singleton.1 hz]; exact c3) ?_
    refine cal_h (gnew_err (limit := limit) (life := life) h5.tr hok (by omega) H (fun c hc => List.mem_append_left _ hc)) ?_
    rintro _ w (⟨hne, rfl, H⟩ | ⟨_, gb, gsr, gsc, gcr, gcc, rfl, hgr, hgc, H⟩)
    · exact absurd he hne
    (try simp only [W0])
    refine neq_n (fun h => h rfl) ?_
    (try simp only [W0])
    refine neq_n (fun h => h rfl) ?_
    (try simp only [W0])
    have hbb : binB .neq (.bool false) (.bool false) = some (.bool false) := rfl
    refine pv_of hbb ?_
    (try simp only [W0])
    have H2 : Hp w0 w ((⟨l, List.replicate l.length 0, limit, life, [], 0, 0, 0⟩ : FS).mem fb mb sr sc (cc ++ (⟨l, List.replicate l.length 0, limit, life, [], 0⟩ : GS).mem gb gsr (.slice none 0 0) gsc ([] ++ (gcc ++ (cr ++ (gcr ++ (⟨b4, .t 76, [I limit, I life]⟩ :: L))))))) := H.to fun q => by simp only [FS.mem, GS.mem, List.map_append, List.map_cons, List.sum_append, List.sum_cons, List.map_nil, List.sum_nil]; omega
    exact calls_loop (by omega) hcl hpk (fun c hc => List.mem_append_right _ (List.mem_append_right _ (List.mem_cons_of_mem _ (m2 c hc)))) hr.tr hgr.tr (fun c hc => List.mem_append_left _ hc) (fun c hc => List.mem_append_right _ (List.mem_append_left _ hc))
      (Has.app (Has.app Has.here)) (new_rl hok he (newErr_lim he)) rfl rfl hc hgc TS.nil H2 fun w H => fin w H.right.right.tail
  · refine cal_h (new_err h1.tr hok (by omega) H (fun c hc => List.mem_append_left _ hc) he) ?_
    rintro _ w ⟨rfl, H⟩
    (try simp only [W0])
    refine drew_k H fun w H => ?_
    have c2 : w.cell? ⟨b4, 0, none⟩ = some (I limit) := H.cellM (t := 76) (l := [I limit, I life]) (Has.app Has.here) rfl
    have c3 : w.cell? ⟨b4, 1, none⟩ = some (I life) := H.cellM (t := 76) (l := [I limit, I life]) (Has.app Has.here) rfl
    (try simp only [W0])
    refine cal_h (rules39_spec hl (by omega) H (fun c hc => List.mem_append_right _ (List.mem_cons_of_mem _ (m1 c hc)))) ?_
    rintro _ w ⟨s5, k5, rfl, h5, H⟩
    (try simp only [W0])
    refine ldS_m H (Has.app (Has.app Has.here)) (o := 0) (v := I limit) rfl (by intro z hz; rw [List.mem_singleton.1 hz]; exact c2) ?_
    (try simp only [W0])
    refine ldS_m H (Has.app (Has.app Has.here)) (o := 1) (v := I life) rfl (by intro z hz; rw [List.mem_singleton.1 hz]; exact c3) ?_
    refine cal_h (gnew_err (limit := limit) (life := life) h5.tr hok (by omega) H (fun c hc => List.mem_append_left _ hc)) ?_
    rintro _ w (⟨_, rfl, H⟩ | ⟨hne, _⟩)
    case inr => exact absurd hne he
    (try simp only [W0])
    refine neq_n (fun h => h rfl) ?_
    (try simp only [W0])
    refine neq_y he ?_
    (try simp only [W0])
    have hbb : binB .neq (.bool true) (.bool true) = some (.bool false) := rfl
    refine pv_of hbb ?_
    (try simp only [W0])
    unfold F9_j2
    refine neq_y he ?_
    (try simp only [W0])
    refine aw w (k5 ++ (k1 ++ [⟨b4, .t 76, [I limit, I life]⟩])) (by simpa using H) fun w H => ?_
    (try simp only [W0])
    exact fin w H
end
end Go.Proofs.Ytmmbepdghpjgeaa.Den
end

section
set_option linter.unusedVariables false
set_option linter.unusedSimpArgs false
set_option maxRecDepth 8000
namespace Go.Proofs.Ytmmbepdghpjgeaa.Den
open Go Go.RowKit Go.ChangeShapes Go.WideShapes Go.ChangeAt Go.Deep
/-- What a law says of a run. -/
def Fin (w0 : World) : ER := fun e w' => e = .returned (.bool true) ∧ Ext [] w0 w'
section
variable {H : Type} {enc : TypeId × Value → H} {P : Program} {W W' : World}
theorem trodAll_below (hl : laidOutB P = true) (hb : Below W.heap.size W W') : ∀ {ts : List TypeId} {vs : List Value} {ds : List (DataW H)} {ps : List MemPlace}, (∀ t ∈ ts, P.readableRec t = true ∧ t < P.types.size) →
    DataW.TrodAll enc P W 0 (fun _ => true) true ts vs ds ps → (∀ x ∈ ps, x.block < W.heap.size) → DataW.TrodAll enc P W' 0 (fun b => decide (b < W.heap.size)) true ts vs ds ps
  | [], _, _, _, ht, h, hlt => by
    obtain ⟨rfl, rfl, rfl⟩ := trodAll_nil h
    rfl
  | t :: ts, _, _, _, ht, h, hlt => by
    obtain ⟨v, vs1, d, ds1, a, b, rfl, rfl, rfl, h1, h2⟩ := trodAll_cons h
    obtain ⟨g1, g2⟩ := ht t (by simp)
    exact ⟨a, b, Below.trod hl g1 g2 h1 hb (fun x hx => hlt x (by simp [hx])), trodAll_below hl hb (fun t' h' => ht t' (by simp [h'])) h2 (fun x hx => hlt x (by simp [hx])), rfl⟩
theorem law_post {f : Func} {s : ChangeSpec} {args : Array Value} {ds : List (DataW H)} {before : List MemPlace} {tb : TypeId} (hl : laidOutB P = true) (hv : s.vars = []) (hr : f.resultTypes = #[tb]) (htb : P.underlying tb = some .bool)
    (hp : ∀ t ∈ f.params.toList, P.readableRec t = true ∧ t < P.types.size)
    (hfn : s.fn H (ds ++ []) = { results := [.lit (.bool true)], args := ds })
    (hW : DataW.Whole enc P f.params.toList s.vars false W args.toList ds [] before) (he : Ext [] W W') :
    s.post enc P f false true false false W args (.bool true) W' := by
  have hb : Below W.heap.size W W' := he.below (Nat.le_refl _) (by simp)
  have hW0 := hW
  obtain ⟨p, q, hA, hV, hpq, _, _⟩ := hW0
  have hlt : ∀ x ∈ before, x.block < W.heap.size := fun x hx => hW.lt x hx
  have hq : q = [] := by rw [hv] at hV; exact hV
  subst hq
  rw [List.append_nil] at hpq
  subst hpq
  refine ⟨ds, [], before, [], before, [], hW, ?_, ?_, ?_, hb.frame _, fun h => by cases h⟩
  · rw [hfn, hr]; exact trodAll_mk1 (shut_bool htb true)
  · rw [hfn]; exact trodAll_below hl hb hp hA hlt
  · rw [hfn, hv]; rfl
end
section
variable {H : Type} {enc : TypeId × Value → H} {P : Program} {w : World} {base : Nat} {spare : Nat → Bool} {held : Bool}
theorem open_slice_fields {t e : TypeId} {fs : Array Field} {fuel : Nat} {cs : List Value} {x : DataW H × List MemPlace} (ht : P.underlying t = some (.slice e)) (he : P.underlying e = some (.struct fs))
    (hone : oneCellFields P fs = true) (hC : P.cellsOf e = fs.size) (h : DataW.trod enc P w base spare held fuel t cs = some x) :
    (cs = [.slice none 0 0] ∧ x = (.nil, [])) ∨
    ∃ (a : Addr) (len cap m : Nat) (D : Nat → DataW H) (Pl : Nat → List MemPlace), cs = [.slice (some a) len cap] ∧ base ≤ a.block ∧ len ≤ cap ∧ cap ≤ maxLen ∧ m = (if spare a.block then cap else len) ∧
      x = (.slice ((List.range len).map D) ((List.range (m - len)).map fun j => D (len + j)), MemPlace.row a (m * fs.size) ++ (List.range m).flatMap Pl) ∧
      ∀ i, i < m → ∃ (ys : List (DataW H × List MemPlace)) (n : Nat), D i = .agg (ys.map (·.1)) ∧ Pl i = ys.flatMap (·.2) ∧ ys.length = fs.size ∧
        ∀ (j : Nat) (f : Field), fs[j]? = some f → ∃ (v : Value) (y : DataW H × List MemPlace), w.cell? (a.add (i * fs.size + j)) = some v ∧ ys[j]? = some y ∧ DataW.trod enc P w base spare held n f.type [v] = some y := by
  rcases open_slice ht h with h0 | ⟨a, len, cap, m, n, D, Pl, hcs, hb, hl, hm, hmm, hx, hi⟩
  · exact .inl h0
  · refine .inr ⟨a, len, cap, m, D, Pl, hcs, hb, hl, hm, hmm, by rw [hC] at hx; exact hx, fun i him => ?_⟩
    obtain ⟨cs', hc, ht'⟩ := hi i him
    rw [hC] at hc
    obtain ⟨ys, n', hn', hy, hlen, hyl, hf⟩ := DataW.trod_struct he ht'
    obtain ⟨_, hcl, hat⟩ := World.cells?_some hc
    simp only [Prod.mk.injEq] at hy
    refine ⟨ys, n', hy.1, hy.2, hyl, fun j f hj => ?_⟩
    obtain ⟨ho, hk⟩ := hone_of hone j f hj
    have hjl : j < fs.size := (Array.getElem?_eq_some_iff.1 hj).1
    have hcell := hat j hjl
    have hv : cs'[j]? = some (cs'[j]'(by omega)) := List.getElem?_eq_getElem (by omega)
    have h1 := hf j f hj
    rw [ho, hk] at h1
    have hone' : (cs'.drop j).take 1 = [cs'[j]'(by omega)] := by
      rw [List.drop_eq_getElem_cons (by omega)]
      rfl
    rw [hone'] at h1
    have hys : ys[j]? = some (ys[j]'(by omega)) := List.getElem?_eq_getElem (by omega)
    refine ⟨_, _, ?_, hys, h1.trans hys⟩
    rw [← Go.Deep.add_add, hcell, hv]
end
/-- The cell of an integer field. -/
theorem int_cell {H : Type} {enc : TypeId × Value → H} {P : Program} {w : World} {base : Nat} {spare : Nat → Bool} {held : Bool} {t : TypeId} {k : IntKind} {n : Nat} {v : Value} {y : DataW H × List MemPlace} (ht : P.underlying t = some (.int k)) (h : DataW.trod enc P w base spare held n t [v] = some y) :
    ∃ i, v = .int k i ∧ (Lit.int k i).wf = true := by
  obtain ⟨i, h1, _, hw⟩ := DataW.trod_int ht h
  simp at h1
  exact ⟨i, h1, hw⟩
theorem bool_cell {H : Type} {enc : TypeId × Value → H} {P : Program} {w : World} {base : Nat} {spare : Nat → Bool} {held : Bool} {t : TypeId} {n : Nat} {v : Value} {y : DataW H × List MemPlace} (ht : P.underlying t = some .bool) (h : DataW.trod enc P w base spare held n t [v] = some y) :
    ∃ i, v = .bool i := by
  obtain ⟨i, h1, _⟩ := DataW.trod_bool ht h
  simp at h1
  exact ⟨i, h1⟩
theorem u8_wf {i : Int} (h : (Lit.int .u8 i).wf = true) : 0 ≤ i ∧ i < 256 := by
  simp [Lit.wf, IntKind.min, IntKind.max, IntKind.signed, IntKind.bits] at h; omega
theorem i64_wf {i : Int} (h : (Lit.int .i64 i).wf = true) : -9223372036854775808 ≤ i ∧ i ≤ 9223372036854775807 := by
  simp [Lit.wf, IntKind.min, IntKind.max, IntKind.signed, IntKind.bits] at h; omega
end Go.Proofs.Ytmmbepdghpjgeaa.Den
end

section
set_option linter.unusedVariables false
set_option linter.unusedSimpArgs false
set_option maxRecDepth 8000
namespace Go.Proofs.Ytmmbepdghpjgeaa.Den
open Go Go.Joins Go.RowKit Go.ChangeShapes Go.WideShapes Go.ChangeAt Go.Deep
noncomputable def structOf (t : TypeId) : Array Field := match Try.prog.underlying t with | some (.struct fs) => fs | _ => #[]
noncomputable def fieldT (t : TypeId) (j : Nat) : Option TypeId := ((structOf t)[j]?).map (·.type)
theorem field_of {t : TypeId} {j ft : Nat} (h : fieldT t j = some ft) : ∃ f : Field, (structOf t)[j]? = some f ∧ f.type = ft := by
  unfold fieldT at h
  cases hf : (structOf t)[j]? with
  | none => simp [hf] at h
  | some f => exact ⟨f, rfl, by simpa [hf] using h⟩
section
variable {H : Type} {enc : TypeId × Value → H} {P : Program} {w : World} {base : Nat} {spare : Nat → Bool} {held : Bool}
theorem slice_open {α : Type} {C : Cod α} {p : α → Prop} {t e : TypeId} {fuel : Nat} {cs : List Value} {x : DataW H × List MemPlace} (ht : P.underlying t = some (.slice e)) (hC : P.cellsOf e = C.sz)
    (hop : ∀ fuel cs x, DataW.trod enc P w base spare held fuel e cs = some x → cs.length = C.sz → ∃ a, cs = C.enc a ∧ p a) (h : DataW.trod enc P w base spare held fuel t cs = some x) :
    ∃ s xs, cs = [s] ∧ TR C w [] s xs ∧ (∀ a ∈ xs, p a) ∧ xs.length < 2 ^ 63 := by
  rcases open_slice ht h with ⟨h0, _⟩ | ⟨a, len, cap, m, n, D, Pl, hcs, hb, hl, hcap, hmm, hx, hi⟩
  · exact ⟨.slice none 0 0, [], h0, TR.nil, by simp, by simp⟩
  · have hel : ∀ i, i < len → ∃ x : α, p x ∧ ∀ j, j < C.sz → w.cell? (a.add (i * C.sz + j)) = (C.enc x)[j]? := by
      intro i hil
      obtain ⟨cs', hc, ht'⟩ := hi i (by rw [hmm]; split <;> omega)
      rw [hC] at hc
      obtain ⟨_, hcl, hat⟩ := World.cells?_some hc
      obtain ⟨x, rfl, hp⟩ := hop _ _ _ ht' hcl
      refine ⟨x, hp, fun j hj => ?_⟩
      rw [← Go.Deep.add_add]; exact hat j hj
    have hxs : ∃ xs : List α, xs.length = len ∧ ∀ (i : Nat) x, xs[i]? = some x → p x ∧ ∀ j, j < C.sz → w.cell? (a.add (i * C.sz + j)) = (C.enc x)[j]? := by
      clear hi hx hmm hl hcap hcs
      induction len with
      | zero => exact ⟨[], rfl, by simp⟩
      | succ len ih =>
        obtain ⟨xs, h1, h2⟩ := ih fun i hi => hel i (by omega)
        obtain ⟨x, hx⟩ := hel len (by omega)
        refine ⟨xs ++ [x], by simp [h1], fun i y hy => ?_⟩
        by_cases hi : i < xs.length
        · rw [List.getElem?_append_left hi] at hy; exact h2 i y hy
        · have hl := (List.getElem?_eq_some_iff.1 hy).1
          simp at hl
          obtain rfl : i = len := by omega
          rw [List.getElem?_append_right (by omega), h1, Nat.sub_self] at hy
          simp at hy; subst hy; exact hx
    obtain ⟨xs, h1, h2⟩ := hxs
    refine ⟨.slice (some a) len cap, xs, hcs, .inl (.inr ⟨a, cap, by rw [h1], by omega, ?_⟩), fun y hy => ?_, ?_⟩
    · refine (cellsAt_spec _ _ _).2 ⟨all_len, fun j hj => ?_⟩
      rw [Nat.zero_add]
      by_cases hz : C.sz = 0
      · rw [hz] at hj; omega
      · have hd : j / C.sz < xs.length := (Nat.div_lt_iff_lt_mul (by omega)).2 hj
        have e : j / C.sz * C.sz + j % C.sz = j := by rw [Nat.mul_comm]; exact Nat.div_add_mod _ _
        have hm : j % C.sz < C.sz := Nat.mod_lt _ (by omega)
        obtain ⟨y, hy⟩ : ∃ y, xs[j / C.sz]? = some y := ⟨_, List.getElem?_eq_getElem hd⟩
        have := (h2 _ y hy).2 _ hm
        rw [e] at this
        rw [this]
        have := all_get (C := C) hy hm
        rw [e] at this
        exact this.symm
    · obtain ⟨i, hi, e⟩ := List.getElem_of_mem hy
      exact (h2 i y (by rw [List.getElem?_eq_getElem hi, e])).1
    · have : maxLen < 2 ^ 63 := by decide
      omega
theorem struct_cells {t : TypeId} {fs : Array Field} {fuel : Nat} {cs : List Value} {x : DataW H × List MemPlace} (ht : P.underlying t = some (.struct fs)) (hone : oneCellFields P fs = true) (hl : cs.length = fs.size)
    (h : DataW.trod enc P w base spare held fuel t cs = some x) : ∀ (j : Nat) (f : Field), fs[j]? = some f → ∃ (v : Value) (n : Nat) (y : DataW H × List MemPlace), cs[j]? = some v ∧ DataW.trod enc P w base spare held n f.type [v] = some y := by
  obtain ⟨ys, n', hn', hy, hlen, hyl, hf⟩ := DataW.trod_struct ht h
  intro j f hj
  obtain ⟨ho, hk⟩ := hone_of hone j f hj
  have hjl : j < fs.size := (Array.getElem?_eq_some_iff.1 hj).1
  have h1 := hf j f hj
  rw [ho, hk] at h1
  have hone' : (cs.drop j).take 1 = [cs[j]'(by omega)] := by
    rw [List.drop_eq_getElem_cons (by omega)]
    rfl
  rw [hone'] at h1
  have hys : ys[j]? = some (ys[j]'(by omega)) := List.getElem?_eq_getElem (by omega)
  exact ⟨_, n', _, List.getElem?_eq_getElem (by omega), h1.trans hys⟩
end
end Go.Proofs.Ytmmbepdghpjgeaa.Den
end

section
set_option linter.unusedVariables false
set_option linter.unusedSimpArgs false
set_option maxRecDepth 8000
namespace Go.Proofs.Ytmmbepdghpjgeaa.Den
open Go Go.Joins Go.RowKit Go.ChangeShapes Go.WideShapes Go.ChangeAt Go.Deep
theorem und3 : Try.prog.underlying 3 = some (.int .i64) := by kernel_rfl
theorem und4 : Try.prog.underlying 4 = some .bool := by kernel_rfl
theorem undU : Try.prog.underlying 23 = some (.int .u32) := by kernel_rfl
theorem undPat : Try.prog.underlying 25 = some (.struct (structOf 25)) := by kernel_rfl
theorem undRng : Try.prog.underlying 27 = some (.struct (structOf 27)) := by kernel_rfl
theorem undRul : Try.prog.underlying 29 = some (.struct (structOf 29)) := by kernel_rfl
theorem undPkt : Try.prog.underlying 45 = some (.struct (structOf 45)) := by kernel_rfl
theorem undRuls : Try.prog.underlying 43 = some (.slice 29) := by kernel_rfl
theorem undPkts : Try.prog.underlying 53 = some (.slice 45) := by kernel_rfl
noncomputable def fieldQ (t : TypeId) (j : Nat) : Option (TypeId × Nat × Nat) := ((structOf t)[j]?).map fun f => (f.type, f.offset, Try.prog.cellsOf f.type)
theorem u32_wf {i : Int} (h : (Lit.int .u32 i).wf = true) : 0 ≤ i ∧ i < 4294967296 := by
  simp [Lit.wf, IntKind.min, IntKind.max, IntKind.signed, IntKind.bits] at h; omega
section
variable {H : Type} {enc : TypeId × Value → H} {w : World} {base : Nat} {spare : Nat → Bool} {held : Bool}
theorem part_open {t : TypeId} {fuel : Nat} {cs : List Value} {x : DataW H × List MemPlace} (ht : Try.prog.underlying t = some (.struct (structOf t))) (h : DataW.trod enc Try.prog w base spare held fuel t cs = some x) {j ft off sz : Nat} (hq : fieldQ t j = some (ft, off, sz)) :
    ∃ n y, DataW.trod enc Try.prog w base spare held n ft ((cs.drop off).take sz) = some y := by
  obtain ⟨ys, n', hn', hy, hlen, hyl, hf⟩ := DataW.trod_struct ht h
  unfold fieldQ at hq
  cases hj : (structOf t)[j]? with
  | none => simp [hj] at hq
  | some f =>
    simp only [hj, Option.map_some, Option.some.injEq, Prod.mk.injEq] at hq
    obtain ⟨rfl, rfl, rfl⟩ := hq
    have hjl : j < (structOf t).size := (Array.getElem?_eq_some_iff.1 hj).1
    have h1 := hf j f hj
    have hys : ys[j]? = some (ys[j]'(by omega)) := List.getElem?_eq_getElem (by omega)
    exact ⟨n', _, h1.trans hys⟩
theorem pat_open {fuel : Nat} {a b c : Value} {x : DataW H × List MemPlace} (h : DataW.trod enc Try.prog w base spare held fuel 25 [a, b, c] = some x) : ∃ p : Pat, [a, b, c] = p.enc ∧ p.Ok := by
  obtain ⟨n0, y0, t0⟩ := part_open undPat h (j := 0) (ft := 23) (off := 0) (sz := 1) (by kernel_rfl)
  obtain ⟨n1, y1, t1⟩ := part_open undPat h (j := 1) (ft := 3) (off := 1) (sz := 1) (by kernel_rfl)
  obtain ⟨n2, y2, t2⟩ := part_open undPat h (j := 2) (ft := 4) (off := 2) (sz := 1) (by kernel_rfl)
  obtain ⟨i, rfl, hw⟩ := int_cell undU t0
  obtain ⟨k, rfl, _⟩ := int_cell und3 t1
  obtain ⟨v, rfl⟩ := bool_cell und4 t2
  exact ⟨⟨i, k, v⟩, rfl, u32_wf hw⟩
theorem rng_open {fuel : Nat} {a b : Value} {x : DataW H × List MemPlace} (h : DataW.trod enc Try.prog w base spare held fuel 27 [a, b] = some x) : ∃ p : Rng, [a, b] = p.enc := by
  obtain ⟨n0, y0, t0⟩ := part_open undRng h (j := 0) (ft := 3) (off := 0) (sz := 1) (by kernel_rfl)
  obtain ⟨n1, y1, t1⟩ := part_open undRng h (j := 1) (ft := 3) (off := 1) (sz := 1) (by kernel_rfl)
  obtain ⟨i, rfl, _⟩ := int_cell und3 t0
  obtain ⟨k, rfl, _⟩ := int_cell und3 t1
  exact ⟨⟨i, k⟩, rfl⟩
theorem rul_open {fuel : Nat} {cs : List Value} {x : DataW H × List MemPlace} (h : DataW.trod enc Try.prog w base spare held fuel 29 cs = some x) (hl : cs.length = 16) : ∃ r : Rul, cs = r.enc ∧ r.Ok := by
  match cs, hl with
  | [c0, c1, c2, c3, c4, c5, c6, c7, c8, c9, c10, c11, c12, c13, c14, c15], _ =>
    obtain ⟨n0, y0, t0⟩ := part_open undRul h (j := 0) (ft := 3) (off := 0) (sz := 1) (by kernel_rfl)
    obtain ⟨n1, y1, t1⟩ := part_open undRul h (j := 1) (ft := 4) (off := 1) (sz := 1) (by kernel_rfl)
    obtain ⟨n2, y2, t2⟩ := part_open undRul h (j := 2) (ft := 4) (off := 2) (sz := 1) (by kernel_rfl)
    obtain ⟨n3, y3, t3⟩ := part_open undRul h (j := 3) (ft := 3) (off := 3) (sz := 1) (by kernel_rfl)
    obtain ⟨n4, y4, t4⟩ := part_open undRul h (j := 4) (ft := 3) (off := 4) (sz := 1) (by kernel_rfl)
    obtain ⟨n5, y5, t5⟩ := part_open undRul h (j := 5) (ft := 3) (off := 5) (sz := 1) (by kernel_rfl)
    obtain ⟨n6, y6, t6⟩ := part_open undRul h (j := 6) (ft := 25) (off := 6) (sz := 3) (by kernel_rfl)
    obtain ⟨n7, y7, t7⟩ := part_open undRul h (j := 7) (ft := 25) (off := 9) (sz := 3) (by kernel_rfl)
    obtain ⟨n8, y8, t8⟩ := part_open undRul h (j := 8) (ft := 27) (off := 12) (sz := 2) (by kernel_rfl)
    obtain ⟨n9, y9, t9⟩ := part_open undRul h (j := 9) (ft := 27) (off := 14) (sz := 2) (by kernel_rfl)
    obtain ⟨a0, rfl, _⟩ := int_cell und3 t0
    obtain ⟨a1, rfl⟩ := bool_cell und4 t1
    obtain ⟨a2, rfl⟩ := bool_cell und4 t2
    obtain ⟨a3, rfl, _⟩ := int_cell und3 t3
    obtain ⟨a4, rfl, _⟩ := int_cell und3 t4
    obtain ⟨a5, rfl, _⟩ := int_cell und3 t5
    obtain ⟨p6, e6, o6⟩ := pat_open t6
    obtain ⟨p7, e7, o7⟩ := pat_open t7
    obtain ⟨p8, e8⟩ := rng_open t8
    obtain ⟨p9, e9⟩ := rng_open t9
    simp only [Pat.enc, Rng.enc, List.cons.injEq, and_true] at e6 e7 e8 e9
    obtain ⟨rfl, rfl, rfl⟩ := e6
    obtain ⟨rfl, rfl, rfl⟩ := e7
    obtain ⟨rfl, rfl⟩ := e8
    obtain ⟨rfl, rfl⟩ := e9
    exact ⟨⟨a0, a1, a2, a3, a4, a5, p6, p7, p8, p9⟩, rfl, o6, o7⟩
theorem pkt_open {fuel : Nat} {cs : List Value} {x : DataW H × List MemPlace} (h : DataW.trod enc Try.prog w base spare held fuel 45 cs = some x) (hl : cs.length = 8) : ∃ r : Pkt, cs = r.enc ∧ r.Ok := by
  match cs, hl with
  | [c0, c1, c2, c3, c4, c5, c6, c7], _ =>
    obtain ⟨n0, y0, t0⟩ := part_open undPkt h (j := 0) (ft := 3) (off := 0) (sz := 1) (by kernel_rfl)
    obtain ⟨n1, y1, t1⟩ := part_open undPkt h (j := 1) (ft := 3) (off := 1) (sz := 1) (by kernel_rfl)
    obtain ⟨n2, y2, t2⟩ := part_open undPkt h (j := 2) (ft := 23) (off := 2) (sz := 1) (by kernel_rfl)
    obtain ⟨n3, y3, t3⟩ := part_open undPkt h (j := 3) (ft := 23) (off := 3) (sz := 1) (by kernel_rfl)
    obtain ⟨n4, y4, t4⟩ := part_open undPkt h (j := 4) (ft := 3) (off := 4) (sz := 1) (by kernel_rfl)
    obtain ⟨n5, y5, t5⟩ := part_open undPkt h (j := 5) (ft := 3) (off := 5) (sz := 1) (by kernel_rfl)
    obtain ⟨n6, y6, t6⟩ := part_open undPkt h (j := 6) (ft := 3) (off := 6) (sz := 1) (by kernel_rfl)
    obtain ⟨n7, y7, t7⟩ := part_open undPkt h (j := 7) (ft := 4) (off := 7) (sz := 1) (by kernel_rfl)
    obtain ⟨a0, rfl, _⟩ := int_cell und3 t0
    obtain ⟨a1, rfl, _⟩ := int_cell und3 t1
    obtain ⟨a2, rfl, w2⟩ := int_cell undU t2
    obtain ⟨a3, rfl, w3⟩ := int_cell undU t3
    obtain ⟨a4, rfl, _⟩ := int_cell und3 t4
    obtain ⟨a5, rfl, _⟩ := int_cell und3 t5
    obtain ⟨a6, rfl, _⟩ := int_cell und3 t6
    obtain ⟨a7, rfl⟩ := bool_cell und4 t7
    exact ⟨⟨a0, a1, a2, a3, a4, a5, a6, a7⟩, rfl, u32_wf w2, u32_wf w3⟩
theorem rul_arg {b0 : Nat} {v : Value} {d : DataW H} {p : List MemPlace} (hv : Value.okWide Try.prog w .any b0 29 v) (h : DataW.Trod enc Try.prog w base spare held 29 v d p) : ∃ r : Rul, v = .agg ⟨r.enc⟩ ∧ r.Ok := by
  obtain ⟨cs, rfl, hsz⟩ := okWide_struct undRul hv
  obtain ⟨l⟩ := cs
  obtain ⟨fuel, hf⟩ := h
  have hl : l.length = 16 := hsz.trans (by kernel_rfl)
  obtain ⟨r, h1, h2⟩ := rul_open hf hl
  exact ⟨r, by show Value.agg ⟨l⟩ = _; rw [show l = r.enc from h1], h2⟩
theorem pkt_arg {b0 : Nat} {v : Value} {d : DataW H} {p : List MemPlace} (hv : Value.okWide Try.prog w .any b0 45 v) (h : DataW.Trod enc Try.prog w base spare held 45 v d p) : ∃ r : Pkt, v = .agg ⟨r.enc⟩ ∧ r.Ok := by
  obtain ⟨cs, rfl, hsz⟩ := okWide_struct undPkt hv
  obtain ⟨l⟩ := cs
  obtain ⟨fuel, hf⟩ := h
  have hl : l.length = 8 := hsz.trans (by kernel_rfl)
  obtain ⟨r, h1, h2⟩ := pkt_open hf hl
  exact ⟨r, by show Value.agg ⟨l⟩ = _; rw [show l = r.enc from h1], h2⟩
theorem ruls_arg {b0 : Nat} {v : Value} {d : DataW H} {p : List MemPlace} (hv : Value.okWide Try.prog w .any b0 43 v) (h : DataW.Trod enc Try.prog w base spare held 43 v d p) :
    ∃ xs, TR cRul w [] v xs ∧ (∀ a ∈ xs, a.Ok) ∧ xs.length < 2 ^ 63 := by
  obtain ⟨a, l, c, rfl⟩ := okWide_slice undRuls hv
  obtain ⟨fuel, hf⟩ := h
  obtain ⟨s, xs, hs, hr, hb, hn⟩ := slice_open (C := cRul) (p := Rul.Ok) undRuls (by kernel_rfl) (fun fuel cs x h hl => rul_open h hl) hf
  simp [Value.cells] at hs
  rw [← hs] at hr
  exact ⟨xs, hr, hb, hn⟩
theorem pkts_arg {b0 : Nat} {v : Value} {d : DataW H} {p : List MemPlace} (hv : Value.okWide Try.prog w .any b0 53 v) (h : DataW.Trod enc Try.prog w base spare held 53 v d p) :
    ∃ xs, TR cPkt w [] v xs ∧ (∀ a ∈ xs, a.Ok) ∧ xs.length < 2 ^ 63 := by
  obtain ⟨a, l, c, rfl⟩ := okWide_slice undPkts hv
  obtain ⟨fuel, hf⟩ := h
  obtain ⟨s, xs, hs, hr, hb, hn⟩ := slice_open (C := cPkt) (p := Pkt.Ok) undPkts (by kernel_rfl) (fun fuel cs x h hl => pkt_open h hl) hf
  simp [Value.cells] at hs
  rw [← hs] at hr
  exact ⟨xs, hr, hb, hn⟩
end
end Go.Proofs.Ytmmbepdghpjgeaa.Den
end

section
set_option linter.unusedVariables false
set_option linter.unusedSimpArgs false
set_option maxRecDepth 8000
namespace Go.Proofs.Ytmmbepdghpjgeaa.Den
open Go Go.Joins Go.RowKit Go.ChangeShapes Go.WideShapes Go.ChangeAt Go.Deep
theorem und64 : Try.prog.underlying 2 = some (.int .i64) := by kernel_rfl
theorem undLim : Try.prog.underlying 76 = some (.struct (structOf 76)) := by kernel_rfl
theorem undCall : Try.prog.underlying 82 = some (.struct (structOf 82)) := by kernel_rfl
theorem undCalls : Try.prog.underlying 77 = some (.slice 82) := by kernel_rfl
section
variable {H : Type} {enc : TypeId × Value → H} {w : World} {base : Nat} {spare : Nat → Bool} {held : Bool}
theorem call_open {fuel : Nat} {cs : List Value} {x : DataW H × List MemPlace} (h : DataW.trod enc Try.prog w base spare held fuel 82 cs = some x) (hl : cs.length = 10) : ∃ r : Cal, cs = r.enc ∧ r.p.Ok := by
  match cs, hl with
  | [c0, c1, c2, c3, c4, c5, c6, c7, c8, c9], _ =>
    obtain ⟨n0, y0, t0⟩ := part_open undCall h (j := 0) (ft := 45) (off := 0) (sz := 8) (by kernel_rfl)
    obtain ⟨n1, y1, t1⟩ := part_open undCall h (j := 1) (ft := 2) (off := 8) (sz := 1) (by kernel_rfl)
    obtain ⟨n2, y2, t2⟩ := part_open undCall h (j := 2) (ft := 4) (off := 9) (sz := 1) (by kernel_rfl)
    obtain ⟨p, e, o⟩ := pkt_open t0 rfl
    obtain ⟨i, rfl, _⟩ := int_cell und64 t1
    obtain ⟨d, rfl⟩ := bool_cell und4 t2
    have e' : [c0, c1, c2, c3, c4, c5, c6, c7] = p.enc := e
    simp only [Pkt.enc, List.cons.injEq, and_true] at e'
    obtain ⟨rfl, rfl, rfl, rfl, rfl, rfl, rfl, rfl⟩ := e'
    exact ⟨⟨p, i, d⟩, rfl, o⟩
theorem lim_arg {b0 : Nat} {v : Value} {d : DataW H} {p : List MemPlace} (hv : Value.okWide Try.prog w .any b0 76 v) (h : DataW.Trod enc Try.prog w base spare held 76 v d p) : ∃ a b : Int, v = .agg ⟨[I a, I b]⟩ := by
  obtain ⟨cs, rfl, hsz⟩ := okWide_struct undLim hv
  obtain ⟨l⟩ := cs
  obtain ⟨fuel, hf⟩ := h
  have hl : l.length = 2 := hsz.trans (by kernel_rfl)
  match l, hl with
  | [c0, c1], _ =>
    obtain ⟨n0, y0, t0⟩ := part_open undLim hf (j := 0) (ft := 3) (off := 0) (sz := 1) (by kernel_rfl)
    obtain ⟨n1, y1, t1⟩ := part_open undLim hf (j := 1) (ft := 2) (off := 1) (sz := 1) (by kernel_rfl)
    obtain ⟨i, rfl, _⟩ := int_cell und3 t0
    obtain ⟨k, rfl, _⟩ := int_cell und64 t1
    exact ⟨i, k, rfl⟩
theorem calls_arg {b0 : Nat} {v : Value} {d : DataW H} {p : List MemPlace} (hv : Value.okWide Try.prog w .any b0 77 v) (h : DataW.Trod enc Try.prog w base spare held 77 v d p) :
    ∃ xs, TR cCal w [] v xs ∧ (∀ a ∈ xs, a.p.Ok) ∧ xs.length < 2 ^ 63 := by
  obtain ⟨a, l, c, rfl⟩ := okWide_slice undCalls hv
  obtain ⟨fuel, hf⟩ := h
  obtain ⟨s, xs, hs, hr, hb, hn⟩ := slice_open (C := cCal) (p := fun c => c.p.Ok) undCalls (by kernel_rfl) (fun fuel cs x h hl => call_open h hl) hf
  simp [Value.cells] at hs
  rw [← hs] at hr
  exact ⟨xs, hr, hb, hn⟩
end
end Go.Proofs.Ytmmbepdghpjgeaa.Den
end
