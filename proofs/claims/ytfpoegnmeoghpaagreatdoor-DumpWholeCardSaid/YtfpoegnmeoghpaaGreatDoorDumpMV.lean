/- What the functions on integers compute, part MV. -/
import Derived.Test.YtfpoegnmeoghpaaGreatDoorDumpMB
import Derived.Test.YtfpoegnmeoghpaaGreatDoorDumpMU
import Derived.Test.YtfpoegnmeoghpaaGreatDoorDumpMA
set_option linter.unusedVariables false
set_option linter.unusedSimpArgs false
namespace Go.VI.Dump
open Go.VI.Num
theorem fit2 {x y : Bool} (h : (x && y) = true) : x = true ∧ y = true := by simpa using h
theorem subQ_some {a b q : Rat} (h : subQ a b = some q) : q = a - b ∧ FitQ q := by
 unfold subQ at h
 split at h
 ·rename_i c
  obtain ⟨c,c4⟩ := fit2 c
  obtain ⟨c,c3⟩ := fit2 c
  cases h
  refine ⟨rfl, ?_⟩
  rw [← q_sub]
  exact divInt_fit (den2_ne a b) (of_decide_eq_true c3) (of_decide_eq_true c4)
 ·cases h
end Go.VI.Dump
namespace Go.VI.Dump
open Go.VI.Num
/- BIGSTEPS -/
theorem pdo_bad {h : Heap} {id : Nat} (hid : h[id]? = some badB) (f : AV) (a b c d : List UInt8) {lo : Nat} (hlo : lo ≤ id) : (run lib).fn 118 [.bptr id 1 0,f,frV a b,frV c d] h lo = some (frV [] [],h) := by
 have hl : id < h.length := (List.getElem?_eq_some_iff.mp hid).1
 have p0 := fun fr => pc_at (H := h ++ fr) (get_pre hid)
 have nk : nchkv (.bptr id 1 0) = some (.bptr id 1 0) := rfl
 unfold frV
 rw [run_open (x := x118) rfl rfl rfl rfl (by omega)]
 simp (maxSteps := 30000000) (disch := omega) only [go_sem,x118,p0,nk,List.take_left]
theorem pdo_ok {h : Heap} {id : Nat} (hid : h[id]? = some okB) {g : Nat} (hg0 : [42,119,120,121,133].contains g = true) {a b c d s t : List UInt8} (hg : ∀ H lo,(run lib).fn g [frV a b,frV c d] H lo = some (.tuple [frV s t,.int .i64 0],H)) {lo : Nat} (hlo : lo ≤ id) :
  (run lib).fn 118 [.bptr id 1 0,.fn g [],frV a b,frV c d] h lo = some (frV s t,h) := by
 have hl : id < h.length := (List.getElem?_eq_some_iff.mp hid).1
 have hg1 : g < 1000 := by
  simp only [List.contains_cons,List.contains_nil,Bool.or_false,Bool.or_eq_true,beq_iff_eq] at hg0
  omega
 have p0 := fun fr => pc_at (H := h ++ fr) (get_pre hid)
 have s0 := fun (fr : Heap) b => ps_at (H := h ++ fr) (id := id) (base := h.length) (lo := lo) (ns := 2) (a := false) (b := b) (get_pre hid) hlo none
 have st : ∀ (fr : Heap),(h ++ fr).set id okB = h ++ fr := fun fr => by rw [set_pre _ hid,hset_same hid]
 have nk : nchkv (.bptr id 1 0) = some (.bptr id 1 0) := rfl
 unfold frV at hg ⊢
 rw [run_open (x := x118) rfl rfl rfl rfl (by omega)]
 simp (maxSteps := 30000000) (disch := omega) only [go_sem,x118,p0,s0,st,nk,hg,hg0,hg1,List.cons_append,List.nil_append,List.take_left]
theorem pdo_err {h : Heap} {id : Nat} (hid : h[id]? = some okB) {g : Nat} (hg0 : [42,119,120,121,133].contains g = true) {a b c d s t : List UInt8} {e : Int} (he : e ≠ 0) (hg : ∀ H lo,(run lib).fn g [frV a b,frV c d] H lo = some (.tuple [frV s t,.int .i64 e],H)) {lo : Nat} (hlo : lo ≤ id) :
  (run lib).fn 118 [.bptr id 1 0,.fn g [],frV a b,frV c d] h lo = some (frV s t,h.set id badB) := by
 have hl : id < h.length := (List.getElem?_eq_some_iff.mp hid).1
 have hg1 : g < 1000 := by
  simp only [List.contains_cons,List.contains_nil,Bool.or_false,Bool.or_eq_true,beq_iff_eq] at hg0
  omega
 have p0 := fun fr => pc_at (H := h ++ fr) (get_pre hid)
 have s0 := fun (fr : Heap) b => ps_at (H := h ++ fr) (id := id) (base := h.length) (lo := lo) (ns := 2) (a := false) (b := b) (get_pre hid) hlo none
 have st : ∀ (fr : Heap),(h ++ fr).set id badB = h.set id badB ++ fr := fun fr => set_pre _ hid
 have tk : ∀ (fr : Heap),(h.set id badB ++ fr).take h.length = h.set id badB := fun fr => by
  have := List.take_left (l₁ := h.set id badB) (l₂ := fr); rwa [List.length_set] at this
 have nk : nchkv (.bptr id 1 0) = some (.bptr id 1 0) := rfl
 unfold frV at hg ⊢
 rw [run_open (x := x118) rfl rfl rfl rfl (by omega)]
 have hn : (h.set id badB).length = h.length := List.length_set ..
 simp (maxSteps := 30000000) (disch := omega) only [go_sem,x118,p0,s0,st,nk,hg,hg0,hg1,List.cons_append,List.nil_append,tk,he,hn,pc_nb,ps_nb]
def speedQ (a b : Rat × Rat) : Option Rat := (subQ b.2 a.2).bind fun y => (subQ b.1 a.1).bind fun x => divQ y x
def kqV (a : Rat × Rat) : AV := .agg [.str (itxt a.1.num),.str (itxt (a.1.den : Int)),.str (itxt a.2.num),.str (itxt (a.2.den : Int))]
structure FitK (a : Rat × Rat) : Prop where
 x : FitQ a.1
 y : FitQ a.2
theorem frV_rt (q : Rat) : rt q = frV (itxt q.num) (itxt (q.den : Int)) := rfl
section
variable {h : Heap} {id lo : Nat}
theorem sub_ok (hid : h[id]? = some okB) (hlo : lo ≤ id) {a b q : Rat} (ha : FitQ a) (hb : FitQ b) (hq : subQ a b = some q) : (run lib).fn 118 [.bptr id 1 0,.fn 119 [],rt a,rt b] h lo = some (rt q,h) :=
 pdo_ok hid (by decide) (fun H lo => by have := qsub_run ha hb H lo; rw [hq] at this; exact this) hlo
theorem sub_err (hid : h[id]? = some okB) (hlo : lo ≤ id) {a b : Rat} (ha : FitQ a) (hb : FitQ b) (hq : subQ a b = none) : (run lib).fn 118 [.bptr id 1 0,.fn 119 [],rt a,rt b] h lo = some (frV [] [],h.set id badB) :=
 pdo_err (e := 40) hid (by decide) (by decide) (fun H lo => by have := qsub_run ha hb H lo; rw [hq] at this; exact this) hlo
theorem div_ok (hid : h[id]? = some okB) (hlo : lo ≤ id) {a b q : Rat} (ha : FitQ a) (hb : FitQ b) (hq : divQ a b = some q) : (run lib).fn 118 [.bptr id 1 0,.fn 133 [],rt a,rt b] h lo = some (rt q,h) :=
 pdo_ok hid (by decide) (fun H lo => by have := qdiv_run ha hb H lo; rw [hq] at this; exact this) hlo
theorem div_err (hid : h[id]? = some okB) (hlo : lo ≤ id) {a b : Rat} (ha : FitQ a) (hb : FitQ b) (hq : divQ a b = none) : (run lib).fn 118 [.bptr id 1 0,.fn 133 [],rt a,rt b] h lo = some (frV [] [],h.set id badB) :=
 pdo_err (e := 40) hid (by decide) (by decide) (fun H lo => by have := qdiv_run ha hb H lo; rw [hq] at this; exact this) hlo
end
theorem set_at {h : Heap} {id : Nat} {b : Nat × Blk} (hid : h[id]? = some b) (c : Nat × Blk) : (h.set id c)[id]? = some c := List.getElem?_set_self (List.getElem?_eq_some_iff.mp hid).1
theorem pspeed_bad {h : Heap} {id : Nat} (hid : h[id]? = some badB) (a b : Rat × Rat) {lo : Nat} (hlo : lo ≤ id) : (run lib).fn 96 [.bptr id 1 0,kqV a,kqV b] h lo = some (frV [] [],h) := by
 have hl : id < h.length := (List.getElem?_eq_some_iff.mp hid).1
 have d := fun fr f a b c d => pdo_bad (h := h ++ fr) (id := id) (get_pre hid) f a b c d hlo
 unfold frV at d ⊢
 unfold kqV
 rw [run_open (x := x96) rfl rfl rfl rfl (by omega)]
 simp (maxSteps := 30000000) (disch := omega) only [go_sem,x96,d,cl_cptr,List.take_left]
theorem pspeed_ok {h : Heap} {id : Nat} (hid : h[id]? = some okB) {a b : Rat × Rat} (ha : FitK a) (hb : FitK b) {q : Rat} (hq : speedQ a b = some q) {lo : Nat} (hlo : lo ≤ id) : (run lib).fn 96 [.bptr id 1 0,kqV a,kqV b] h lo = some (rt q,h) := by
 have hl : id < h.length := (List.getElem?_eq_some_iff.mp hid).1
 obtain ⟨y,hy,hq⟩ := Option.bind_eq_some_iff.mp hq
 obtain ⟨x,hx,hq⟩ := Option.bind_eq_some_iff.mp hq
 have d1 := fun fr => sub_ok (h := h ++ fr) (id := id) (get_pre hid) hlo hb.y ha.y hy
 have d2 := fun fr => sub_ok (h := h ++ fr) (id := id) (get_pre hid) hlo hb.x ha.x hx
 have d3 := fun fr => div_ok (h := h ++ fr) (id := id) (get_pre hid) hlo (subQ_some hy).2 (subQ_some hx).2 hq
 simp only [frV_rt,frV] at d1 d2 d3 ⊢
 unfold kqV
 rw [run_open (x := x96) rfl rfl rfl rfl (by omega)]
 simp (maxSteps := 30000000) (disch := omega) only [go_sem,x96,d1,d2,d3,cl_cptr,List.take_left]
theorem pspeed_err {h : Heap} {id : Nat} (hid : h[id]? = some okB) {a b : Rat × Rat} (ha : FitK a) (hb : FitK b) (hq : speedQ a b = none) {lo : Nat} (hlo : lo ≤ id) : (run lib).fn 96 [.bptr id 1 0,kqV a,kqV b] h lo = some (frV [] [],h.set id badB) := by
 have hl : id < h.length := (List.getElem?_eq_some_iff.mp hid).1
 have hn : (h.set id badB).length = h.length := List.length_set ..
 have tk : ∀ (fr : Heap),(h.set id badB ++ fr).take h.length = h.set id badB := fun fr => by
  have := List.take_left (l₁ := h.set id badB) (l₂ := fr); rwa [List.length_set] at this
 have st : ∀ (fr : Heap),(h ++ fr).set id badB = h.set id badB ++ fr := fun fr => set_pre _ hid
 have bd := fun fr f a b c d => pdo_bad (h := h.set id badB ++ fr) (id := id) (get_pre (set_at hid badB)) f a b c d hlo
 unfold speedQ at hq
 cases hy : subQ b.2 a.2 with
 | none =>
  have d1 := fun fr => sub_err (h := h ++ fr) (id := id) (get_pre hid) hlo hb.y ha.y hy
  simp only [frV_rt,frV] at d1 bd ⊢
  unfold kqV
  rw [run_open (x := x96) rfl rfl rfl rfl (by omega)]
  simp (maxSteps := 30000000) (disch := omega) only [go_sem,x96,d1,bd,st,tk,hn,pc_nb,ps_nb,mk_nb,cd_nb,cl_cptr]
 | some y =>
  have d1 := fun fr => sub_ok (h := h ++ fr) (id := id) (get_pre hid) hlo hb.y ha.y hy
  rw [hy,Option.bind_some] at hq
  cases hx : subQ b.1 a.1 with
  | none =>
   have d2 := fun fr => sub_err (h := h ++ fr) (id := id) (get_pre hid) hlo hb.x ha.x hx
   simp only [frV_rt,frV] at d1 d2 bd ⊢
   unfold kqV
   rw [run_open (x := x96) rfl rfl rfl rfl (by omega)]
   simp (maxSteps := 30000000) (disch := omega) only [go_sem,x96,d1,d2,bd,st,tk,hn,pc_nb,ps_nb,mk_nb,cd_nb,cl_cptr]
  | some x =>
   have d2 := fun fr => sub_ok (h := h ++ fr) (id := id) (get_pre hid) hlo hb.x ha.x hx
   rw [hx,Option.bind_some] at hq
   have d3 := fun fr => div_err (h := h ++ fr) (id := id) (get_pre hid) hlo (subQ_some hy).2 (subQ_some hx).2 hq
   simp only [frV_rt,frV] at d1 d2 d3 bd ⊢
   unfold kqV
   rw [run_open (x := x96) rfl rfl rfl rfl (by omega)]
   simp (maxSteps := 30000000) (disch := omega) only [go_sem,x96,d1,d2,d3,bd,st,tk,hn,pc_nb,ps_nb,mk_nb,cd_nb,cl_cptr]
end Go.VI.Dump
namespace Go.VI.Dump
open Go.VI.Num
/- BIGSTEPS -/
abbrev KQ := Rat × Rat
def kqs (l : List KQ) : List AV := l.map kqV
@[simp] theorem kqs_len (l : List KQ) : (kqs l).length = l.length := by simp [kqs]
theorem kqs_get (l : List KQ) (k : Nat) (h : k < (kqs l).length) : (kqs l)[k] = kqV (l[k]'(by simpa using h)) := by simp [kqs]
section
variable {σ : Type} {H : σ → Heap} {nb lo id iv : Nat} {step : σ → KQ → KQ → σ × Bool} {Iv : σ → Prop}
def pgo (step : σ → KQ → KQ → σ × Bool) (st : σ) : List KQ → σ
 | a :: b :: r => if (step st a b).2 then pgo step (step st a b).1 (b :: r) else (step st a b).1
 | _ => st
theorem pgo_go {st : σ} {l : List KQ} {k : Nat} (h : k + 1 < l.length) : pgo step st (l.drop k) = if (step st l[k] l[k + 1]).2 then pgo step (step st l[k] l[k + 1]).1 (l.drop (k + 1)) else (step st l[k] l[k + 1]).1 := by
 rw [List.drop_eq_getElem_cons (show k < l.length by omega),List.drop_eq_getElem_cons h,pgo]
theorem pgo_end {st : σ} {l : List KQ} {k : Nat} (h : l.length ≤ k + 1) : pgo step st (l.drop k) = st := by
 rcases Nat.lt_or_ge k l.length with h1 | h1
 ·rw [List.drop_eq_getElem_cons h1,List.drop_of_length_le (by omega)]; rfl
 ·rw [List.drop_of_length_le h1]; rfl
theorem pairs_loop {v : AV} {l : List KQ} (hl : l.length ≤ 9223372036854775807) (hv : ∀ st,Sl (H st) 4 v (kqs l)) (hI : ∀ st a b,a ∈ l → b ∈ l → Iv st → (step st a b).2 = true → Iv (step st a b).1)
  (hy : ∀ st a b,a ∈ l → b ∈ l → Iv st → yieldv (run lib) ⟨lo,nb,0,none⟩ id iv [kqV a,kqV b] (H st) = some (.bool (step st a b).2,H (step st a b).1)) : ∀ (d k : Nat) (st : σ),k + d = l.length → 0 < k → Iv st →
  ∃ e env,e ≠ Ex.exit 1 ∧ (e = .exit 0 ∨ e = .ret) ∧ runC lib ⟨lo,nb,0,none⟩ (.loop b132_0) ([(0,.yld id iv),(1,.cptr [v]),(3,.int .i64 k)],H st) = some (e,(env,H (pgo step st (l.drop (k - 1))))) := by
 intro d
 induction d with
 | zero =>
  intro k st hk h0 hi
  have lv := lenv_sl (hv st).len
  rw [kqs_len] at lv
  refine ⟨.exit 0,[],by simp,.inl rfl, ?_⟩
  rw [pgo_end (by omega),w_loop]
  have c : ¬ (k : Int) < l.length := by omega
  simp (maxSteps := 30000000) (disch := omega) only [go_sem,lv,c]
 | succ d ih =>
  intro k st hk h0 hi
  obtain ⟨j,rfl⟩ : ∃ j,k = j + 1 := ⟨k - 1,by omega⟩
  have hk' : j + 1 < l.length := by omega
  have lv := lenv_sl (hv st).len
  rw [kqs_len] at lv
  have c : ((j + 1 : Nat) : Int) < l.length := by omega
  have e3 : sidx 4 v (.int .i64 ((j + 1 : Nat) : Int)) = some (j + 1) := by rw [sidx_sl (hv st) (by omega) (by simp; omega)]; rfl
  have e4 := fun off => pc_iptr (off := off) (hv st).elems0 (show j + 1 < (kqs l).length by simp; omega)
  have f3 : sidx 4 v (.int .i64 (((j + 1 : Nat) : Int) - 1)) = some j := by rw [sidx_sl (hv st) (by omega) (by simp; omega)]; simp
  have f4 := fun off => pc_iptr (off := off) (hv st).elems0 (show j < (kqs l).length by simp; omega)
  have y := hy st l[j] l[j + 1] (List.getElem_mem _) (List.getElem_mem _) hi
  have i2 := hI st l[j] l[j + 1] (List.getElem_mem _) (List.getElem_mem _) hi
  rw [show j + 1 - 1 = j by omega,pgo_go hk']
  simp only [kqs_get] at e4 f4
  cases hc : (step st l[j] l[j + 1]).2 with
  | false =>
   rw [hc] at y
   rw [if_neg (by simp)]
   simp only [kqV] at e4 f4 y
   refine ⟨.ret,[],by simp,.inr rfl, ?_⟩
   rw [w_loop]
   simp (maxSteps := 30000000) (disch := omega) only [go_sem,lv,c,e3,e4,f3,f4,y,cl_cptr]
  | true =>
   rw [hc] at y
   rw [if_pos rfl]
   obtain ⟨e,env,g1,g2,g3⟩ := ih (j + 1 + 1) _ (by omega) (by omega) (i2 hc)
   rw [show j + 1 + 1 - 1 = j + 1 by omega,cast1] at g3
   simp only [kqV] at e4 f4 y
   refine ⟨e,env,g1,g2, ?_⟩
   rw [w_loop]
   simp (maxSteps := 30000000) (disch := omega) only [go_sem,lv,c,e3,e4,f3,f4,y,cl_cptr,g3]
theorem pairs_run {v : AV} {l : List KQ} (hl : l.length ≤ 9223372036854775807) (hv : ∀ st,Sl (H st) 4 v (kqs l)) (hlen : ∀ st,(H st).length = nb) (hlo : lo ≤ nb) (hI : ∀ st a b,a ∈ l → b ∈ l → Iv st → (step st a b).2 = true → Iv (step st a b).1)
  (hy : ∀ st a b,a ∈ l → b ∈ l → Iv st → yieldv (run lib) ⟨lo,nb,0,none⟩ id iv [kqV a,kqV b] (H st) = some (.bool (step st a b).2,H (step st a b).1)) (st : σ) (hi : Iv st) :
  (run lib).fn 132 [.yld id iv,.cptr [v]] (H st) lo = some (.tuple [],H (pgo step st l)) := by
 have ho := run_open (L := lib) (f := 132) (x := x132) (args := [.yld id iv,.cptr [v]]) (h := H st) (lo := lo) rfl rfl rfl rfl (by rw [hlen]; exact hlo)
 have hr : List.replicate x132.ns (0,Blk.dead) = [] := rfl
 have tk : ∀ s,(H s).take (H st).length = H s := fun s => by rw [hlen st,← hlen s,List.take_length]
 rw [ho,hr,List.append_nil,hlen]
 rcases Nat.eq_zero_or_pos l.length with h0 | h0
 ·have lv := lenv_sl (hv st).len
  rw [kqs_len,h0] at lv
  have hp : pgo step st l = st := by rw [List.eq_nil_of_length_eq_zero h0]; rfl
  have e : runC lib ⟨lo,nb,0,none⟩ (.loop b132_0) ([(0,.yld id iv),(1,.cptr [v]),(3,.int .i64 1)],H st) = some (.exit 0,([],H st)) := by
   rw [w_loop]
   simp (maxSteps := 30000000) (disch := omega) only [go_sem,lv]
  rw [hp]
  simp (maxSteps := 30000000) (disch := omega) only [go_sem,x132,e,tk]
 ·obtain ⟨e,env,g1,g2,g3⟩ := pairs_loop hl hv hI hy (l.length - 1) 1 st (by omega) (by omega) hi
  have c1 : ((1 : Nat) : Int) = 1 := rfl
  rw [c1,Nat.sub_self,List.drop_zero] at g3
  rcases g2 with rfl | rfl
  ·simp (maxSteps := 30000000) (disch := omega) only [go_sem,x132,g3,tk]
  ·simp (maxSteps := 30000000) (disch := omega) only [go_sem,x132,g3,tk]
theorem ppairs_run {v v' : AV} (h : Heap) (k1 : v.val = true) (k2 : ∀ b k H,frz b k v H = some (v',H)) (k3 : v'.cells = [v']) (lo : Nat) : (run lib).fn 95 [v] h lo = some (.fn 132 [.cptr [v']],h) := by
 rw [run_closed (x := x95) rfl rfl rfl rfl]
 simp (maxSteps := 30000000) (disch := omega) only [go_sem,x95,k1,k2,k3]
end
end Go.VI.Dump
namespace Go.VI.Dump
open Go.VI.Num
/- BIGSTEPS -/
theorem ixk_loop {h : Heap} {v : AV} {l : List KQ} (hv : Sl h 4 v (kqs l)) (hl : l.length ≤ 9223372036854775807) {g : Nat} (hg : g < 1000) {caps : List AV} {p : KQ → Bool}
  (hF : ∀ x ∈ l,∀ lo,(run lib).fn g (kqV x :: caps) h lo = some (.bool (p x),h)) (lo : Nat) : ∀ (d k : Nat),k + d = l.length →
  runC lib ⟨lo,h.length,0,none⟩ (.loop b116_0) ([(0,v),(1,.fn g caps),(7,.int .i64 l.length),(8,.int .i64 k)],h) =
   match ixV l p k with | some r => some (.ret,([(4,.int .i64 r)],h)) | none => some (.exit 0,([],h)) := by
 intro d
 induction d with
 | zero =>
  intro k hk
  obtain rfl : k = l.length := by omega
  rw [ixV_end,w_loop]
  simp (maxSteps := 30000000) (disch := omega) only [go_sem,Int.lt_irrefl]
 | succ d ih =>
  intro k hk
  have hk' : k < l.length := by omega
  have h1 : (k : Int) < l.length := by omega
  have e3 : sidx 4 v (.int .i64 k) = some k := by rw [sidx_sl hv (by omega) (by simp; omega)]; simp
  have e4 := fun off => pc_iptr (off := off) hv.elems0 (show k < (kqs l).length by simp; omega)
  simp only [kqs_get,kqV] at e4
  have f := fun lo => hF l[k] (List.getElem_mem _) lo
  simp only [kqV] at f
  cases hp : p l[k] with
  | true =>
   rw [ixV_hit hk' hp,w_loop]
   rw [hp] at f
   simp (maxSteps := 30000000) (disch := omega) only [go_sem,h1,e3,e4,f,hg,List.cons_append,List.nil_append]
  | false =>
   rw [ixV_next hk' hp,w_loop]
   rw [hp] at f
   have e := ih (k + 1) (by omega)
   rw [cast1] at e
   simp (maxSteps := 30000000) (disch := omega) only [go_sem,h1,e3,e4,f,hg,List.cons_append,List.nil_append,e]
theorem ixk_run {h : Heap} {v : AV} {l : List KQ} (hv : Sl h 4 v (kqs l)) (hl : l.length ≤ 9223372036854775807) {g : Nat} (hg : g < 1000) {caps : List AV} {p : KQ → Bool}
  (hF : ∀ x ∈ l,∀ lo,(run lib).fn g (kqV x :: caps) h lo = some (.bool (p x),h)) (lo : Nat) : (run lib).fn 116 [v,.fn g caps] h lo = some (.int .i64 (ixR l p),h) := by
 have e := ixk_loop hv hl hg hF h.length l.length 0 (by omega)
 have ll := lenv_sl hv.len
 rw [kqs_len] at ll
 unfold ixR
 simp only [Int.natCast_zero] at e
 rw [run_closed (x := x116) rfl rfl rfl rfl]
 cases hr : ixV l p 0 with
 | none => rw [hr] at e; simp (maxSteps := 30000000) (disch := omega) only [go_sem,x116,ll,e]
 | some r => rw [hr] at e; simp (maxSteps := 30000000) (disch := omega) only [go_sem,x116,ll,e]
theorem cfk_run {h : Heap} {v : AV} {l : List KQ} (hv : Sl h 4 v (kqs l)) (hl : l.length ≤ 9223372036854775807) {g : Nat} (hg : g < 1000) {caps : List AV} {p : KQ → Bool}
  (hF : ∀ x ∈ l,∀ lo,(run lib).fn g (kqV x :: caps) h lo = some (.bool (p x),h)) (lo : Nat) : (run lib).fn 94 [v,.fn g caps] h lo = some (.bool (l.any p),h) := by
 have e := fun lo => ixk_run hv hl hg hF lo
 have hn := ixR_neg (l := l) (p := p)
 rw [← hn]
 rw [run_closed (x := x94) rfl rfl rfl rfl]
 simp (maxSteps := 30000000) (disch := omega) only [go_sem,x94,e]
theorem rval_fit {q : Rat} (h : FitQ q) : rvalid (itxt q.num) (itxt (q.den : Int)) = true := rvalid_itxt h
theorem pvalid1_run {a : KQ} (ha : FitK a) (h : Heap) (lo : Nat) : (run lib).fn 93 [kqV a] h lo = some (.bool false,h) := by
 have e1 := fun H lo => qvalid_run (itxt a.1.num) (itxt (a.1.den : Int)) H lo
 have e2 := fun H lo => qvalid_run (itxt a.2.num) (itxt (a.2.den : Int)) H lo
 rw [rval_fit ha.x] at e1
 rw [rval_fit ha.y] at e2
 simp only [frV] at e1 e2
 unfold kqV
 rw [run_closed (x := x93) rfl rfl rfl rfl]
 simp (maxSteps := 30000000) (disch := omega) only [go_sem,x93,e1,e2]
structure WS where
 rs : RS
 bad : Bool
 b1 : Nat × Blk
 b2 : Nat × Blk
 res : Bool
def kqC (a : KQ) : List AV := [.str (itxt a.1.num),.str (itxt (a.1.den : Int)),.str (itxt a.2.num),.str (itxt (a.2.den : Int))]
def pvEnv (h : Heap) (v : AV) : Env := [(2,.bptr (h.length + 4) 1 0),(4,.bptr (h.length + 3) 1 0),(23,.fn 132 [.cptr [v]])]
def pvD (h : Heap) (v : AV) : Rcd := ⟨5,h.length,h.length,5,pvEnv h v⟩
def pvH (h : Heap) (v : AV) (st : WS) : Heap := h ++ [(1,.rcd (pvD h v) st.rs),st.b1,st.b2,(1,.box [.bool st.bad]),(1,.box [.bool st.res])]
def incB (a b : KQ) : Bool := decide (a.1 < b.1) && decide (a.2 < b.2)
def pvT (st : WS) (a b : KQ) : WS × Bool :=
 (⟨if incB a b then .ready else .done .ret,if incB a b then st.bad || (speedQ a b).isNone else st.bad,(st.b1.1 + 1,.box (kqC b)),(st.b2.1 + 1,.box (kqC a)),if incB a b then st.res else false⟩,incB a b)
theorem cmp_inc (a b : Rat) : decide (0 ≤ cmpQ a b) = !decide (a < b) := by
 rcases cmpQ_cases a b with ⟨e,l⟩ | ⟨e,l⟩ | ⟨e,l⟩
 ·rw [e,decide_eq_true l]; rfl
 ·rw [e,l,show decide (b < b) = false from decide_eq_false Rat.lt_irrefl]; rfl
 ·rw [e,show decide (a < b) = false from decide_eq_false (by grind)]; rfl
theorem pv_yield {h : Heap} {v : AV} (st : WS) (hr : st.rs = .ready) {a b : KQ} (ha : FitK a) (hb : FitK b) :
  yieldv (run lib) ⟨h.length,h.length + 5,0,none⟩ (h.length + 0) 1 [kqV a,kqV b] (pvH h v st) = some (.bool (pvT st a b).2,pvH h v (pvT st a b).1) := by
 obtain ⟨rs,bad,⟨v1,c1⟩,⟨v2,c2⟩,res⟩ := st
 simp only at hr
 subst hr
 obtain ⟨D,hD⟩ : ∃ D : Rcd,D = pvD h v := ⟨_,rfl⟩
 simp only [pvH,pvT,← hD]
 have ha1 : runC lib ⟨h.length,h.length,5,some (h.length + 0,1)⟩ r5.asg ((r5.ps.zip [kqV a,kqV b]).foldl (fun e p => e.set p.1 p.2) (pvEnv h v),h ++ [(1,.rcd D .ready),(v1,c1),(v2,c2),(1,.box [.bool bad]),(1,.box [.bool res])]) =
   some (.norm,([(2,.bptr (h.length + 4) 1 0),(4,.bptr (h.length + 3) 1 0),(5,.bptr (h.length + 2) (v2 + 1) 0),(6,.bptr (h.length + 1) (v1 + 1) 0)],h ++ [(1,.rcd D .ready),(v1 + 1,.box (kqC b)),(v2 + 1,.box (kqC a)),(1,.box [.bool bad]),(1,.box [.bool res])])) := by
  have em : ∀ fr : Heap,mkAt ⟨h.length,h.length,5,some (h.length + 0,1)⟩ 2 (.box [.str [],.str [],.str [],.str []]) (h ++ fr) = mkF 2 5 (.box [.str [],.str [],.str [],.str []]) h fr fr[2]? := fun fr => mkAt_r (by rfl)
  have em1 : ∀ fr : Heap,mkAt ⟨h.length,h.length,5,some (h.length + 0,1)⟩ 1 (.box [.str [],.str [],.str [],.str []]) (h ++ fr) = mkF 1 5 (.box [.str [],.str [],.str [],.str []]) h fr fr[1]? := fun fr => mkAt_r (by rfl)
  have es := fun (fr : Heap) s ver (k : KQ) => ps_bptr_r (lo := h.length) (ns := 5) (sz := 4) (s := s) (ver := ver) (off := 0) (h := h) (fr := fr) (v := kqV k) (p := (h.length + 0,1)) (Nat.le_refl _) (by rfl)
  simp only [kqV] at es ⊢
  simp (maxSteps := 30000000) (disch := omega) only [go_sem,r5,pvEnv,kqC,em,em1,es,List.zip_cons_cons,List.zip_nil_right,List.foldl_cons,List.foldl_nil]
 have q1 := fun H lo => qcompare_run ha.x hb.x H lo
 have q2 := fun H lo => qcompare_run ha.y hb.y H lo
 simp only [rt,frV] at q1 q2
 have hb1 : ∃ env2,runC lib ⟨h.length,h.length,5,some (h.length + 0,1)⟩ r5.body ([(2,.bptr (h.length + 4) 1 0),(4,.bptr (h.length + 3) 1 0),(5,.bptr (h.length + 2) (v2 + 1) 0),(6,.bptr (h.length + 1) (v1 + 1) 0)],(h ++ [(1,Blk.rcd D .ready),(v1 + 1,Blk.box (kqC b)),(v2 + 1,Blk.box (kqC a)),(1,Blk.box [.bool bad]),(1,Blk.box [.bool res])]).set (h.length + 0) (1,.rcd D .busy)) =
   some (if incB a b then .norm else .ret,(env2,h ++ [(1,.rcd D .busy),(v1 + 1,.box (kqC b)),(v2 + 1,.box (kqC a)),(1,.box [.bool (if incB a b then bad || (speedQ a b).isNone else bad)]),(1,.box [.bool (if incB a b then res else false)])])) := by
  refine ⟨[], ?_⟩
  rw [set_fr,List.set_cons_zero]
  have pb := fun (fr : Heap) x => ps_bptr_r (lo := h.length) (ns := 5) (sz := 1) (s := 4) (ver := 1) (off := 0) (h := h) (fr := fr) (v := .bool x) (p := (h.length + 0,1)) (Nat.le_refl _) (by rfl)
  have n1 := cmp_inc a.1 b.1
  have n2 := cmp_inc a.2 b.2
  unfold incB
  by_cases c1 : a.1 < b.1
  ·have m1 : ¬ 0 ≤ cmpQ a.1 b.1 := by rw [decide_eq_true c1] at n1; simpa using n1
   by_cases c2 : a.2 < b.2
   ·have m2 : ¬ 0 ≤ cmpQ a.2 b.2 := by rw [decide_eq_true c2] at n2; simpa using n2
    simp only [c1,c2,decide_true,Bool.and_self,if_true]
    cases bad with
    | true =>
     have sp := pspeed_bad (h := h ++ [(1,.rcd D .busy),(v1 + 1,.box (kqC b)),(v2 + 1,.box (kqC a)),badB,(1,.box [.bool res])]) (id := h.length + 3) (by rw [get_fr]; rfl) a b (lo := h.length) (by omega)
     simp only [kqV,kqC,frV,badB] at sp ⊢
     simp (maxSteps := 30000000) (disch := omega) only [go_sem,r5,q1,q2,m1,m2,sp]
    | false =>
     cases hs : speedQ a b with
     | some q =>
      have sp := pspeed_ok (h := h ++ [(1,.rcd D .busy),(v1 + 1,.box (kqC b)),(v2 + 1,.box (kqC a)),okB,(1,.box [.bool res])]) (id := h.length + 3) (by rw [get_fr]; rfl) ha hb hs (lo := h.length) (by omega)
      simp only [kqV,kqC,frV_rt,frV,okB] at sp ⊢
      simp (maxSteps := 30000000) (disch := omega) only [go_sem,r5,q1,q2,m1,m2,sp,Option.isNone_some]
     | none =>
      have sp := pspeed_err (h := h ++ [(1,.rcd D .busy),(v1 + 1,.box (kqC b)),(v2 + 1,.box (kqC a)),okB,(1,.box [.bool res])]) (id := h.length + 3) (by rw [get_fr]; rfl) ha hb hs (lo := h.length) (by omega)
      rw [set_fr] at sp
      simp only [kqV,kqC,frV,okB,badB,List.set_cons_succ,List.set_cons_zero] at sp ⊢
      simp (maxSteps := 30000000) (disch := omega) only [go_sem,r5,q1,q2,m1,m2,sp,Option.isNone_none]
   ·have m2 : 0 ≤ cmpQ a.2 b.2 := by rw [decide_eq_false c2] at n2; simpa using n2
    simp only [c1,c2,decide_true,decide_false,Bool.and_false,if_false,Bool.false_eq_true]
    simp only [kqC]
    simp (maxSteps := 30000000) (disch := omega) only [go_sem,r5,q1,q2,m1,m2,pb]
  ·have m1 : 0 ≤ cmpQ a.1 b.1 := by rw [decide_eq_false c1] at n1; simpa using n1
   simp only [c1,decide_false,Bool.false_and,if_false,Bool.false_eq_true]
   simp only [kqC]
   simp (maxSteps := 30000000) (disch := omega) only [go_sem,r5,q1,q2,m1,pb]
 obtain ⟨env2,hb2⟩ := hb1
 have hg : (h ++ [(1,Blk.rcd D .ready),(v1,c1),(v2,c2),(1,Blk.box [.bool bad]),(1,Blk.box [.bool res])])[h.length + 0]? = some (1,.rcd ⟨5,h.length,h.length,5,pvEnv h v⟩ .ready) := by rw [get_fr,hD]; rfl
 have := yield_round (L := lib) (cx := ⟨h.length,h.length + 5,0,none⟩) hg (Nat.le_refl _) (by omega) (Nat.le_refl _) (by simp [kqV,AV.closedL,AV.closed]) (x := r5) rfl rfl ha1 (by rw [get_fr]; rfl) hb2 (by rw [get_fr]; rfl)
 rw [this,set_fr]
 cases incB a b <;> rfl
def vgo : Bool → List KQ → Option Bool
 | bad,a :: b :: r => if incB a b then vgo (bad || (speedQ a b).isNone) (b :: r) else none
 | bad,_ => some bad
def wvB (l : List KQ) : Bool := decide (2 ≤ l.length) && (decide (l.length ≤ 24) && (vgo false l == some false))
theorem pgo_vgo : ∀ (l : List KQ) (st : WS),st.rs = .ready → (match vgo st.bad l with
  | some bad => (pgo pvT st l).rs = .ready ∧ (pgo pvT st l).bad = bad
  | none => (pgo pvT st l).rs = .done .ret ∧ (pgo pvT st l).res = false)
 | [],st,h => ⟨h,rfl⟩
 | [a],st,h => ⟨h,rfl⟩
 | a :: b :: r,st,h => by
  rw [vgo,pgo]
  cases hc : incB a b
  ·have e : (pvT st a b).2 = false := hc
   rw [e]
   simp only [Bool.false_eq_true,if_false]
   exact ⟨by simp [pvT,hc],by simp [pvT,hc]⟩
  ·have e : (pvT st a b).2 = true := hc
   rw [e]
   simp only [if_true]
   have i := pgo_vgo (b :: r) (pvT st a b).1 (by simp [pvT,hc])
   have eb : (pvT st a b).1.bad = (st.bad || (speedQ a b).isNone) := by simp [pvT,hc]
   rw [eb] at i
   exact i
theorem pure_rov {z : Nat} {v : AV} {es : List AV} (p : PureSl z v es) : v.val = true ∧ v.cells = [v] ∧ ∃ f z',(z' = z ∨ es = []) ∧ ∀ b k h,frz b k v h = some (rov f z' es,h) := by
 rcases p with ⟨rfl,rfl⟩ | ⟨z',rfl | rfl,hz⟩
 ·exact ⟨rfl,rfl,false,0,.inr rfl,fun b k h => by simp [frz,rov]⟩
 ·exact ⟨rfl,rfl,false,z',hz,fun b k h => by simp [frz,rov]⟩
 ·exact ⟨rfl,rfl,true,z',hz,fun b k h => by simp [frz,rov]⟩
theorem pvalid_enter {h : Heap} {v : AV} {l : List KQ} (hp : PureSl 4 v (kqs l)) (hl : l.length ≤ 9223372036854775807) (hf : ∀ a ∈ l,FitK a) (lo : Nat) : enter x58 (runC lib) [.agg [v]] h lo = some (.bool (wvB l),h) := by
 obtain ⟨q1,q2,f,z,hz,q3⟩ := pure_rov hp
 obtain ⟨w,hw⟩ : ∃ w,w = rov f z (kqs l) := ⟨_,rfl⟩
 have sl : ∀ H,Sl H 4 w (kqs l) := fun H => by rw [hw]; exact rov_sl hz f H
 have w1 : w.val = true := by rw [hw]; exact rov_val _ _ _
 have w2 : w.cells = [w] := by rw [hw]; exact rov_cells _ _ _
 have w3 : ∀ b k h,frz b k w h = some (w,h) := fun b k h => by rw [hw]; exact frz_rov _ _ _ _ _ _
 have w4 : w.closed = true := by rw [hw]; exact rov_closed _ _ _
 rw [← hw] at q3
 clear hw
 have ll := lenv_sl (sl []).len
 rw [kqs_len] at ll
 have cf := fun H lo => cfk_run (g := 93) (caps := []) (p := fun _ => false) (sl H) hl (by decide) (fun a ha lo => pvalid1_run (hf a ha) H lo) lo
 have ca : l.any (fun _ => false) = false := by simp
 rw [ca] at cf
 have pr := fun H lo => ppairs_run (v := w) (v' := w) H w1 w3 w2 lo
 have hs1 : ∀ st : WS,(pvH h w st).length = h.length + 5 := fun st => by simp [pvH]
 have g := pairs_run (id := h.length + 0) (iv := 1) (H := pvH h w) (nb := h.length + 5) (lo := h.length) (step := pvT) (Iv := fun st => st.rs = .ready) (v := w) (l := l) hl (fun st => sl _) hs1 (by omega) (fun st a b _ _ hi hc => by have : incB a b = true := hc; simp [pvT,this])
  (fun st a b h1 h2 hi => pv_yield (h := h) (v := w) st hi (hf a h1) (hf b h2)) ⟨.ready,false,(0,.dead),(0,.dead),false⟩ rfl
 have hv := pgo_vgo l ⟨.ready,false,(0,.dead),(0,.dead),false⟩ rfl
 simp only at hv
 rw [enter_closed rfl rfl]
 unfold wvB
 by_cases c1 : 2 ≤ l.length
 ·by_cases c2 : l.length ≤ 24
  ·have k1 : ¬ (l.length : Int) < 2 := by omega
   have k2 : ¬ 24 < (l.length : Int) := by omega
   simp only [c1,c2,decide_true,Bool.true_and]
   obtain ⟨st,hst⟩ : ∃ st,st = pgo pvT ⟨.ready,false,(0,.dead),(0,.dead),false⟩ l := ⟨_,rfl⟩
   rw [← hst] at g hv
   obtain ⟨rs,bad,B1,B2,res⟩ := st
   cases hg : vgo false l with
   | some bd =>
    rw [hg] at hv
    obtain ⟨rfl,rfl⟩ := hv
    have g3 := w_rfn (L := lib) (lo := h.length) (ns := 5) (s := 0) (g := 5) (it := 132) (v := 0) (caps := [.cptr [w]]) (env := pvEnv h w) (h := h) (b := .dead)
     (fr := [(0,.dead),(0,.dead),(0,.dead),(1,.box [.bool false]),(1,.box [.bool false])])
     (fr' := [(1,.rcd (pvD h w) .ready),B1,B2,(1,.box [.bool bad]),(1,.box [.bool res])])
     (f := .t 23) rfl (by omega) rfl g rfl
    simp only [pvEnv,List.set_cons_zero] at g3
    cases bad
    ·simp (maxSteps := 30000000) (disch := omega) only [go_sem,x58,q1,q2,q3,w1,w2,w3,w4,ll,cf,pr,k1,k2,g3]
     rfl
    ·simp (maxSteps := 30000000) (disch := omega) only [go_sem,x58,q1,q2,q3,w1,w2,w3,w4,ll,cf,pr,k1,k2,g3]
     rfl
   | none =>
    rw [hg] at hv
    obtain ⟨rfl,rfl⟩ := hv
    have g3 := w_rfn_done (L := lib) (lo := h.length) (ns := 5) (s := 0) (g := 5) (it := 132) (v := 0) (caps := [.cptr [w]]) (env := pvEnv h w) (h := h) (b := .dead)
     (fr := [(0,.dead),(0,.dead),(0,.dead),(1,.box [.bool false]),(1,.box [.bool false])])
     (fr' := [(1,.rcd (pvD h w) (.done .ret)),B1,B2,(1,.box [.bool bad]),(1,.box [.bool false])])
     (f := .t 23) rfl (by omega) rfl g rfl
    simp only [pvEnv,List.set_cons_zero] at g3
    simp (maxSteps := 30000000) (disch := omega) only [go_sem,x58,q1,q2,q3,w1,w2,w3,w4,ll,cf,pr,k1,k2,g3]
    rfl
  ·have k1 : ¬ (l.length : Int) < 2 := by omega
   have k2 : 24 < (l.length : Int) := by omega
   simp only [c1,c2,decide_true,decide_false,Bool.true_and,Bool.false_and]
   simp (maxSteps := 30000000) (disch := omega) only [go_sem,x58,q1,q2,q3,w1,w2,w3,w4,ll,k1,k2]
 ·have k1 : (l.length : Int) < 2 := by omega
  simp only [c1,decide_false,Bool.false_and]
  simp (maxSteps := 30000000) (disch := omega) only [go_sem,x58,q1,q2,q3,w1,w2,w3,w4,ll,k1]
theorem pvalid_run {h : Heap} {v : AV} {l : List KQ} (hv : Sl h 4 v (kqs l)) (hl : l.length ≤ 9223372036854775807) (hf : ∀ a ∈ l,FitK a) (lo : Nat) : (run lib).fn 58 [.agg [v]] h lo = some (.bool (wvB l),h) := by
 obtain ⟨v',h1,h2⟩ := view_sl hv
 refine run_lent (x := x58) (vs := [.agg [v']]) rfl rfl rfl ?_ (pvalid_enter h2 hl hf 0) rfl
 simp [viewL,h1,view]
end Go.VI.Dump
namespace Go.VI
theorem ck_nobox_r {lo ns : Nat} {p : Nat × Nat} (env : Env) (h fr : Heap) (s : Nat) : Chk.ok ⟨lo,h.length,ns,some p⟩ env (h ++ fr) (.nobox s) = ckN fr[s]? := by
 simp only [Chk.ok,get_fr]; rfl
theorem ckN_acc (v z : Nat) (es : List AV) : ckN (some (accB (v,.dead) z es)) = true := by unfold accB; split <;> rfl
theorem app_at {cx : Cx} {s t z lim : Nat} {h fr : Heap} {b0 : Nat × Blk} {es xs : List AV} (hne : es ≠ []) (hlo : cx.lo ≤ h.length + t) (hb : fr[t]? = some (accB b0 z es)) (hl : es.length + xs.length ≤ lim) :
  appv cx s z lim (accV (h.length + t) b0 z es) xs (h ++ fr) = some (accV (h.length + t) b0 z (es ++ xs),h ++ fr.set t (accB b0 z (es ++ xs))) := by
 rw [accB_ne hne] at hb
 rw [accV_ne hne,accV_ne (by simp [hne]),accB_ne (by simp [hne]),app_ref (by rw [get_fr,hb]) hlo hl,set_fr,List.length_append]
theorem bq1 : (true == true) = true := rfl
theorem bq2 : (false == false) = true := rfl
theorem bq3 : (true == false) = false := rfl
theorem bq4 : (false == true) = false := rfl
end Go.VI
namespace Go.VI.Dump
open Go.VI.Num
/- BIGSTEPS -/
def qk (p : Pr) : KQ := ((p.1 : Rat),(p.2 : Rat))
def qks (K : List Pr) : List AV := kqs (K.map qk)
theorem qks_app (K : List Pr) (p : Pr) : qks (K ++ [p]) = qks K ++ [.agg [.str (itxt p.1),.str [49],.str (itxt p.2),.str [49]]] := by
 simp [qks,kqs,qk,kqV,itxt_one]
theorem qks_len (K : List Pr) : (qks K).length = K.length := by simp [qks]
theorem qks_nil {K : List Pr} : qks K = [] ↔ K = [] := by simp [qks,kqs]
theorem fit_small {z : Int} (h : z.natAbs < 100000) : Fit z := by
 unfold Fit
 exact Nat.lt_of_lt_of_le h (Nat.le_trans (show 100000 ≤ 10 ^ 5 by decide) (Nat.pow_le_pow_right (by decide) (by decide)))
theorem make1 (z : Int) : makeQ z 1 = some (z : Rat) := by
 unfold makeQ
 rw [if_neg (by decide)]
 congr 1
 rw [Rat.divInt_eq_div]; grind
theorem of1_run {z : Int} (hz : z.natAbs < 100000) (h : Heap) (lo : Nat) : (run lib).fn 39 [.int .i64 z,.int .i64 1] h lo = some (.tuple [.agg [.str (itxt z),.str [49]],.int .i64 0],h) := by
 have := qof_run (n := z) (d := 1) (fit_small hz) (fit_small (by decide)) (by omega) (by decide) h lo
 rw [make1] at this
 exact this
theorem knee_run {x y : Int} (hx : x.natAbs < 100000) (hy : y.natAbs < 100000) (h : Heap) (lo : Nat) : (run lib).fn 57 [.int .i64 x,.int .i64 y] h lo = some (.agg [.str (itxt x),.str [49],.str (itxt y),.str [49]],h) := by
 have e1 := fun H lo => of1_run hx H lo
 have e2 := fun H lo => of1_run hy H lo
 rw [run_closed (x := x57) rfl rfl rfl rfl]
 simp (maxSteps := 30000000) (disch := omega) only [go_sem,x57,e1,e2]
abbrev MS := Bool × List Pr × Nat × Blk
def mpEnv (h : Heap) (x : LV) : Env := [(4,.bptr (h.length + 7) 1 0),(5,.int .i64 0),(8,.bptr (h.length + 6) 1 0),(9,.bptr (h.length + 5) 1 0),(10,.bptr (h.length + 4) 1 0),(35,.fn 89 [lvP x])]
def mpD (h : Heap) (x : LV) : Rcd := ⟨3,h.length,h.length,8,mpEnv h x⟩
def mpH (h : Heap) (x : LV) (r : Pr) (st : MS) : Heap := h ++ [(1,.rcd (mpD h x) .ready),st.2.2,(0,.dead),accB (0,.dead) 4 (qks st.2.1),(1,.box [.bool st.1]),(1,.box [accV (h.length + 3) (0,.dead) 4 (qks st.2.1)]),(1,.box [.int .i64 r.1,.int .i64 r.2]),(1,.box [.nilSl])]
def mpT (r : Pr) (st : MS) (X : Stp) : MS := ((mapT r (st.1,st.2.1) X).1,(mapT r (st.1,st.2.1) X).2,st.2.2.1 + 1,.box (stC X))
def mpI (r : Pr) (s a : Int) (st : MS) : Prop := (r.1 < s → st.2.1 ≠ []) ∧ (st.2.1.length : Int) ≤ 2 * s ∧ 0 ≤ s
theorem mp_yield {x : LV} (h : Heap) (r : Pr) (hr : r.1 < r.2) (st : MS) (X : Stp) (fr : Heap) (hX : StpOk X) (hi : mpI r X.fr X.be st) :
  yieldv (run lib) ⟨h.length,h.length + 8,3,none⟩ (h.length + 0) 1 [stV X] (mpH h x r st ++ fr) = some (.bool true,mpH h x r (mpT r st X) ++ fr) := by
 obtain ⟨f,K,v,b⟩ := st
 obtain ⟨r1,r2⟩ := r
 obtain ⟨x1,x2,x3,x4,x5,x6,x7,x8,x9,x10⟩ := hX
 obtain ⟨hi1,hi2,hi3⟩ := hi
 simp only at hi1 hi2 hr
 obtain ⟨D,hD⟩ : ∃ D : Rcd,D = mpD h x := ⟨_,rfl⟩
 simp only [mpH,mpT,List.append_assoc,List.cons_append,List.nil_append,← hD]
 have ha : runC lib ⟨h.length,h.length,8,some (h.length + 0,1)⟩ r3.asg ((r3.ps.zip [stV X]).foldl (fun e p => e.set p.1 p.2) (mpEnv h x),h ++ ((1,.rcd D .ready) :: (v,b) :: (0,.dead) :: accB (0,.dead) 4 (qks K) :: (1,.box [.bool f]) :: (1,.box [accV (h.length + 3) (0,.dead) 4 (qks K)]) :: (1,.box [.int .i64 r1,.int .i64 r2]) :: (1,.box [.nilSl]) :: fr)) =
   some (.norm,([(8,.bptr (h.length + 6) 1 0),(9,.bptr (h.length + 5) 1 0),(10,.bptr (h.length + 4) 1 0),(11,.bptr (h.length + 1) (v + 1) 0)],h ++ ((1,.rcd D .ready) :: (v + 1,.box (stC X)) :: (0,.dead) :: accB (0,.dead) 4 (qks K) :: (1,.box [.bool f]) :: (1,.box [accV (h.length + 3) (0,.dead) 4 (qks K)]) :: (1,.box [.int .i64 r1,.int .i64 r2]) :: (1,.box [.nilSl]) :: fr))) := by
  have em : ∀ g : Heap,mkAt ⟨h.length,h.length,8,some (h.length + 0,1)⟩ 1 (.box [.int .i64 0,.int .i64 0,.int .i64 0,.int .i64 0,.int .i64 0,.bool false,.bool false]) (h ++ g) = mkF 1 8 (.box [.int .i64 0,.int .i64 0,.int .i64 0,.int .i64 0,.int .i64 0,.bool false,.bool false]) h g g[1]? := fun g => mkAt_r (by rfl)
  have es := fun (g : Heap) ver => ps_bptr_r (lo := h.length) (ns := 8) (sz := 7) (s := 1) (ver := ver) (off := 0) (h := h) (fr := g) (v := stV X) (p := (h.length + 0,1)) (Nat.le_refl _) (by rfl)
  simp only [stV] at es ⊢
  simp (maxSteps := 30000000) (disch := omega) only [go_sem,r3,mpEnv,stC,em,es,List.zip_cons_cons,List.zip_nil_right,List.foldl_cons,List.foldl_nil]
 have hb : ∃ env2 e,e ≠ Ex.exit 0 ∧ e = .norm ∧ runC lib ⟨h.length,h.length,8,some (h.length + 0,1)⟩ r3.body ([(8,.bptr (h.length + 6) 1 0),(9,.bptr (h.length + 5) 1 0),(10,.bptr (h.length + 4) 1 0),(11,.bptr (h.length + 1) (v + 1) 0)],(h ++ ((1,Blk.rcd D .ready) :: (v + 1,Blk.box (stC X)) :: (0,Blk.dead) :: accB (0,.dead) 4 (qks K) :: (1,Blk.box [.bool f]) :: (1,Blk.box [accV (h.length + 3) (0,.dead) 4 (qks K)]) :: (1,Blk.box [.int .i64 r1,.int .i64 r2]) :: (1,Blk.box [.nilSl]) :: fr)).set (h.length + 0) (1,.rcd D .busy)) =
   some (e,(env2,h ++ ((1,.rcd D .busy) :: (v + 1,.box (stC X)) :: (0,.dead) :: accB (0,.dead) 4 (qks (mapT (r1,r2) (f,K) X).2) :: (1,.box [.bool (mapT (r1,r2) (f,K) X).1]) :: (1,.box [accV (h.length + 3) (0,.dead) 4 (qks (mapT (r1,r2) (f,K) X).2)]) :: (1,.box [.int .i64 r1,.int .i64 r2]) :: (1,.box [.nilSl]) :: fr))) := by
  refine ⟨if (mapT (r1,r2) (f,K) X).2 = (mapT (r1,r2) (f,K) X).2 ∧ ¬ (X.fr < r1 ∨ r2 ≤ X.fr) ∧ X.to ≠ r2 then [(9,.bptr (h.length + 5) 1 0),(11,.bptr (h.length + 1) (v + 1) 0),(81,.bool false)] else [],.norm,by simp,rfl, ?_⟩
  rw [set_fr,List.set_cons_zero]
  have kn := fun a b (ha : a.natAbs < 100000) (hb : b.natAbs < 100000) H lo => knee_run (x := a) (y := b) ha hb H lo
  have k1 := kn X.fr X.be (by omega) (by omega)
  have k2 := kn X.to X.af (by omega) (by omega)
  have pb := fun (g : Heap) c => ps_bptr_r (lo := h.length) (ns := 8) (sz := 1) (s := 4) (ver := 1) (off := 0) (h := h) (fr := g) (v := .bool c) (p := (h.length + 0,1)) (Nat.le_refl _) (by rfl)
  have pa := fun (g : Heap) (es : List AV) => ps_bptr_f (lo := h.length) (ns := 8) (s := 5) (ver := 1) (off := 0) (h := h) (p := (h.length + 0,1)) (fr := g) (v := accV (h.length + 3) (0,.dead) 4 es) (Nat.le_refl _) (accV_fit (by omega)) ⟨by rw [accV_cells]; rfl,accV_val _ _ _ _⟩
  have ap1 := fun (g : Heap) (es : List AV) (w : AV) (hg : g[3]? = some (accB (0,.dead) 4 es)) (hl : es.length ≤ 10000) => (appv_r (p := (h.length + 0,1))).trans (app_acc (lo := h.length) (ns := 8) (s := 3) (z := 4) (lim := 2199023255552) (h := h) (fr := g) (b0 := (0,.dead)) (es := es) (xs := [w]) (by omega) (by omega) hg (by simp; omega))
  have ap2 := fun (g : Heap) (es : List AV) (w : AV) (hg : g[3]? = some (accB (0,.dead) 4 es)) (hl : es.length ≤ 10000) (hne : es ≠ []) => app_at (cx := ⟨h.length,h.length,8,some (h.length + 0,1)⟩) (s := 2) (t := 3) (z := 4) (lim := 2199023255552) (h := h) (fr := g) (b0 := (0,.dead)) (es := es) (xs := [w]) hne (by simp) hg (by simp; omega)
  obtain ⟨G,hG⟩ : ∃ G : Bool → List AV → AV → Heap,G = fun c es m => (1,.rcd D .busy) :: (v + 1,.box (stC X)) :: (0,.dead) :: accB (0,.dead) 4 es :: (1,.box [.bool c]) :: (1,.box [m]) :: (1,.box [.int .i64 r1,.int .i64 r2]) :: (1,.box [.nilSl]) :: fr := ⟨_,rfl⟩
  have gg : ∀ c es m,(G c es m)[3]? = some (accB (0,.dead) 4 es) := fun c es m => by rw [hG]; rfl
  have hKl : (qks K).length ≤ 5000 := by rw [qks_len]; omega
  unfold mapT
  simp only
  by_cases c1 : X.fr < r1
  ·rw [if_pos (show X.fr < r1 ∨ r2 ≤ X.fr from .inl c1),if_neg (by simp [c1])]
   simp only [stC]
   simp (maxSteps := 30000000) (disch := omega) only [go_sem,r3,c1]
  ·by_cases c2 : r2 ≤ X.fr
   ·rw [if_pos (show X.fr < r1 ∨ r2 ≤ X.fr from .inr c2),if_neg (by simp [c2])]
    simp only [stC]
    simp (maxSteps := 30000000) (disch := omega) only [go_sem,r3,c1,c2]
   ·rw [if_neg (show ¬ (X.fr < r1 ∨ r2 ≤ X.fr) by omega)]
    have hnot : ¬ (X.fr < r1 ∨ r2 ≤ X.fr) := by omega
    have fin : ∀ f s : Bool,s = f ∨ s = !f := fun f s => by cases f <;> cases s <;> simp
    have ck := fun env (g : Heap) => ck_nobox_r (lo := h.length) (ns := 8) (p := (h.length + 0,1)) env h g
    have a1 := fun c m w => ap1 (G c (qks K) m) (qks K) w (gg _ _ _) (by omega)
    have a3 := fun c m w (hne : qks K ≠ []) => ap2 (G c (qks K) m) (qks K) w (gg _ _ _) (by omega) hne
    have a2 := fun c m u w => ap2 (G c (qks K ++ [u]) m) (qks K ++ [u]) w (gg _ _ _) (by simp; omega) (by simp)
    subst hG
    simp only [List.set_cons_succ,List.set_cons_zero] at a1 a2 a3
    simp only [stC] at a1 a2 a3 ⊢
    generalize X.str = s at *
    by_cases c5 : X.fr = r1
    ·rw [if_pos (show X.fr = r1 ∨ s ≠ f from .inl c5)]
     by_cases c4 : X.to = r2
     ·rw [if_pos c4,if_neg (by simp [c4]),qks_app,qks_app]
      subst c4
      subst c5
      simp (maxSteps := 30000000) (disch := omega) only [go_sem,r3,c1,c2,pb,pa,k1,k2,a1,a2,ck,ckN_acc,accV_cells,bq1,bq2,bq3,bq4]
     ·rw [if_neg c4,List.append_nil,if_pos ⟨trivial,hnot,c4⟩,qks_app]
      subst c5
      simp (maxSteps := 30000000) (disch := omega) only [go_sem,r3,c4,c1,c2,pb,pa,k1,k2,a1,a2,ck,ckN_acc,accV_cells,bq1,bq2,bq3,bq4]
    ·have hne : qks K ≠ [] := fun e => hi1 (by omega) (qks_nil.mp e)
     have a3 := fun c m w => a3 c m w hne
     rcases fin f s with rfl | rfl
     ·rw [if_neg (show ¬ (X.fr = r1 ∨ s ≠ s) by simp [c5]),List.append_nil]
      by_cases c4 : X.to = r2
      ·rw [if_pos c4,if_neg (by simp [c4]),qks_app]
       subst c4
       cases s <;> simp (maxSteps := 30000000) (disch := omega) only [go_sem,r3,c5,c1,c2,pb,pa,k1,k2,a3,ck,ckN_acc,accV_cells,bq1,bq2,bq3,bq4]
      ·rw [if_neg c4,List.append_nil,if_pos ⟨trivial,hnot,c4⟩]
       cases s <;> simp (maxSteps := 30000000) (disch := omega) only [go_sem,r3,c4,c5,c1,c2,pb,pa,k1,k2,a3,ck,ckN_acc,accV_cells,bq1,bq2,bq3,bq4]
     ·rw [if_pos (show X.fr = r1 ∨ (!f) ≠ f from .inr (by cases f <;> simp))]
      by_cases c4 : X.to = r2
      ·rw [if_pos c4,if_neg (by simp [c4]),qks_app,qks_app]
       subst c4
       cases f <;> simp only [Bool.not_false,Bool.not_true] at a1 a2 ⊢ <;> simp (maxSteps := 30000000) (disch := omega) only [go_sem,r3,c5,c1,c2,pb,pa,k1,k2,a1,a2,ck,ckN_acc,accV_cells,bq1,bq2,bq3,bq4]
      ·rw [if_neg c4,List.append_nil,if_pos ⟨trivial,hnot,c4⟩,qks_app]
       cases f <;> simp only [Bool.not_false,Bool.not_true] at a1 a2 ⊢ <;> simp (maxSteps := 30000000) (disch := omega) only [go_sem,r3,c4,c5,c1,c2,pb,pa,k1,k2,a1,a2,ck,ckN_acc,accV_cells,bq1,bq2,bq3,bq4]
 obtain ⟨env2,e,_,rfl,hb⟩ := hb
 have hg : (h ++ ((1,Blk.rcd D .ready) :: (v,b) :: (0,Blk.dead) :: accB (0,.dead) 4 (qks K) :: (1,Blk.box [.bool f]) :: (1,Blk.box [accV (h.length + 3) (0,.dead) 4 (qks K)]) :: (1,Blk.box [.int .i64 r1,.int .i64 r2]) :: (1,Blk.box [.nilSl]) :: fr))[h.length + 0]? = some (1,.rcd ⟨3,h.length,h.length,8,mpEnv h x⟩ .ready) := by rw [get_fr,hD]; rfl
 have := yield_round (L := lib) (cx := ⟨h.length,h.length + 8,3,none⟩) hg (Nat.le_refl _) (by omega) (Nat.le_refl _) (by simp [stV,AV.closedL,AV.closed]) (x := r3) rfl rfl ha (by rw [get_fr]; rfl) hb (by rw [get_fr]; rfl)
 rw [this,set_fr]
 rfl
theorem mpT_fst (r : Pr) (xs : List Stp) : ∀ st : MS,((xs.foldl (mpT r) st).1,(xs.foldl (mpT r) st).2.1) = xs.foldl (mapT r) (st.1,st.2.1) := by
 induction xs with
 | nil => intro st; rfl
 | cons X xs ih => intro st; rw [List.foldl_cons,ih,List.foldl_cons]; rfl
theorem mpT_I {r : Pr} (hr : r.1 < r.2) (st : MS) (X : Stp) (hX : StpOk X) (hq : X.to ≤ r.1 ∨ r.1 ≤ X.fr) (hi : mpI r X.fr X.be st) : mpI r X.to X.af (mpT r st X) := by
 obtain ⟨h1,h2,h3⟩ := hi
 have x1 := hX.fr
 have x2 := hX.to
 refine ⟨fun hs => ?_, ?_,by omega⟩
 ·simp only [mpT,mapT]
  split
  ·rename_i hc
   simp only
   exact h1 (by omega)
  ·rename_i hc
   simp only
   intro e
   rw [List.append_eq_nil_iff,List.append_eq_nil_iff] at e
   by_cases c : r.1 < X.fr
   ·exact h1 c e.1.1
   ·have h5 := e.1.2
    rw [if_pos (.inl (by omega))] at h5
    cases h5
 ·simp only [mpT,mapT]
  split
  ·simp only; omega
  ·simp only [List.length_append]
   split <;> split <;> simp <;> omega
end Go.VI.Dump
namespace Go.VI.Dump
open Go.VI.Num
/- BIGSTEPS -/
theorem kn_bd {l : Liv} {A : List Int} {a : Pr} {K : List Pr} (h : Kn l A a K) : (∀ p ∈ K,a.1 < p.1 ∧ a.2 < p.2) ∧ ∀ q ∈ K.getLast?,∀ p ∈ a :: K,p.1 ≤ q.1 ∧ p.2 ≤ q.2 := by
 induction h with
 | one a => exact ⟨by simp,by simp⟩
 | @cons a b K s h ih =>
  obtain ⟨i1,i2⟩ := ih
  refine ⟨fun p hp => ?_,fun q hq p hp => ?_⟩
  ·have := s.x
   have := s.y
   rcases List.mem_cons.mp hp with rfl | hp
   ·omega
   ·have := i1 p hp; omega
  ·have s1 := s.x
   have s2 := s.y
   cases K with
   | nil =>
    obtain rfl : b = q := by simpa using hq
    rcases List.mem_cons.mp hp with rfl | hp
    ·omega
    ·obtain rfl : p = b := by simpa using hp
     omega
   | cons c K =>
    rw [List.getLast?_cons_cons] at hq
    have j := i2 q hq
    rcases List.mem_cons.mp hp with rfl | hp
    ·have := j b (by simp); omega
    ·exact j p hp
def okP (p : Pr) : Prop := (0 ≤ p.1 ∧ p.1 ≤ 1000) ∧ (0 ≤ p.2 ∧ p.2 ≤ 1000)
theorem fitk_of {p : Pr} (h : okP p) : FitK (qk p) := ⟨fitQ_int ⟨by have := h.1; omega,by have := h.1; omega⟩,fitQ_int ⟨by have := h.2; omega,by have := h.2; omega⟩⟩
def spQ (a b : Pr) : Rat := ((b.2 - a.2 : Int) : Rat) / ((b.1 - a.1 : Int) : Rat)
theorem speed_int {a b : Pr} (ha : okP a) (hb : okP b) (hx : a.1 < b.1) : speedQ (qk a) (qk b) = some (spQ a b) := by
 obtain ⟨⟨a1,a2⟩,a3,a4⟩ := ha
 obtain ⟨⟨b1,b2⟩,b3,b4⟩ := hb
 unfold speedQ qk
 simp only
 rw [sub_int ⟨by omega,by omega⟩ ⟨by omega,by omega⟩,sub_int ⟨by omega,by omega⟩ ⟨by omega,by omega⟩]
 simp only [Option.bind_some]
 exact div_int ⟨by omega,by omega⟩ ⟨by omega,by omega⟩ (by omega)
theorem vgo_kn {l : Liv} {A : List Int} {a : Pr} {K : List Pr} (h : Kn l A a K) : (∀ p ∈ a :: K,okP p) → vgo false ((a :: K).map qk) = some false := by
 induction h with
 | one a => intro _; rfl
 | @cons a b K s h ih =>
  intro hp
  have i := ih fun p h => hp p (List.mem_cons_of_mem _ h)
  rw [List.map_cons] at i
  rw [List.map_cons,List.map_cons,vgo]
  have hi : incB (qk a) (qk b) = true := by
   have h1 : (qk a).1 < (qk b).1 := Rat.intCast_lt_intCast.mpr s.x
   have h2 : (qk a).2 < (qk b).2 := Rat.intCast_lt_intCast.mpr s.y
   unfold incB
   rw [decide_eq_true h1,decide_eq_true h2]; rfl
  rw [hi,if_pos rfl,speed_int (hp a (by simp)) (hp b (by simp)) s.x]
  exact i
theorem map_okP {l : Liv} (ok : okLiv l) {r : Pr} (hr : Run l r) {xs : List Stp} {e : Int} (h : Ch l 0 l.D xs e) {a : Pr} {K : List Pr} {y1 : Int} (m : MapOk l r xs a K y1) : ∀ p ∈ a :: K,okP p := by
 obtain ⟨h1,h2⟩ := kn_bd m.kn
 have h3 := h2 _ m.last
 have hD := ok.D
 have hL := ok.L
 have ht := m.top
 have hl := h.air_len ok.E.1
 have hd := h.dl hD.1 (Int.le_refl _)
 have hx := m.x0
 have hy := m.y0
 have hlo := hr.lo
 have hhi := hr.hi
 have htop : y1 ≤ 720 := by
  unfold airL at ht
  rw [List.length_append,List.length_replicate] at ht
  omega
 intro p hp
 have h4 := h3 p hp
 simp only at h4
 rcases List.mem_cons.mp hp with rfl | hp
 ·exact ⟨⟨by omega,by omega⟩,by omega,by omega⟩
 ·have := h1 p hp
  exact ⟨⟨by omega,by omega⟩,by omega,by omega⟩
theorem map_valid {l : Liv} (ok : okLiv l) {r : Pr} (hr : Run l r) {xs : List Stp} {e : Int} (h : Ch l 0 l.D xs e) {a : Pr} {K : List Pr} {y1 : Int} (m : MapOk l r xs a K y1) : wvB ((a :: K).map qk) = true := by
 unfold wvB
 have := m.len
 rw [vgo_kn m.kn (map_okP ok hr h m),List.length_map,List.length_cons,decide_eq_true (by omega),decide_eq_true (by omega)]
 rfl
theorem lstV_sl (z : Nat) (es : List AV) (h : Heap) : Sl h z (lstV z es) es := Sl.lstV h z es
theorem dmap_bad2 {x : LV} (o : okV x) (ok : okLiv x.l) {k : Int} (hk : k < 0 ∨ (runsL x.l).length ≤ k) (h : Heap) (lo : Nat) : (run lib).fn 26 [lvV x,.int .i64 k] h lo = some (.tuple [.agg [.lst 0 []],.int .i64 200],h) := by
 have e := fun H lo => druns_run o ok H lo
 have ll := lenv_sl (lstV_sl 2 (pts (runsL x.l)) h).len
 rw [pts_len] at ll
 unfold lvV at e ⊢
 rw [run_closed (x := x26) rfl rfl rfl rfl]
 by_cases c : k < 0
 ·simp (maxSteps := 30000000) (disch := omega) only [go_sem,x26,e,c]
 ·have c2 : (runsL x.l).length ≤ k := by omega
  simp (maxSteps := 30000000) (disch := omega) only [go_sem,x26,e,c,ll,c2]
theorem dmap_run {x : LV} (o : okV x) (ok : okLiv x.l) {xs : List Stp} {e : Int} (hc : Ch x.l 0 x.l.D xs e) {k : Nat} (hk : k < (runsL x.l).length) (h : Heap) (lo : Nat) :
  (run lib).fn 26 [lvV x,.int .i64 k] h lo = some (.tuple [.agg [.lst 4 (qks (mapL (runsL x.l)[k] xs))],.int .i64 0],h) := by
 have er := fun H lo => druns_run o ok H lo
 have dc := fun H lo => dcourse_run x H lo
 have hrn := run_of ok (List.getElem_mem hk)
 obtain ⟨a,K,y1,m⟩ := map_ok ok hrn hc
 have hmv := map_valid ok hrn hc m
 have hmp := map_okP ok hrn hc m
 obtain ⟨pre,ys,dd,hxs,k1,_,k3,_⟩ := run_split ok hrn hc
 have hQ : ∀ X ∈ xs,X.to ≤ (runsL x.l)[k].1 ∨ (runsL x.l)[k].1 ≤ X.fr := fun X hX => by
  rw [hxs] at hX
  rcases List.mem_append.mp hX with h | h
  ·exact .inl (k3 X h).2
  ·exact .inr (k1.fr ok.E.1 X h).1
 have sl := lstV_sl 2 (pts (runsL x.l))
 have ll := lenv_sl (sl h).len
 rw [pts_len] at ll
 have e3 : sidx 2 (lstV 2 (pts (runsL x.l))) (.int .i64 k) = some k := by rw [sidx_sl (sl h) (by omega) (by simp; omega)]; simp
 have e4 := fun off H => pc_iptr (off := off) (sl H).elems0 (show k < (pts (runsL x.l)).length by simp; exact hk)
 simp only [pts_get,pt] at e4
 have hk2 : (k : Int) < ((runsL x.l).length : Int) := by omega
 generalize (runsL x.l)[k] = r at *
 obtain ⟨r1,r2⟩ := r
 simp only at e4
 have hlen : ∀ st,(mpH h x (r1,r2) st).length = h.length + 8 := fun st => by simp [mpH]
 obtain ⟨_,g2⟩ := course_runQ (Q := fun X => X.to ≤ r1 ∨ r1 ≤ X.fr) (id := h.length + 0) (iv := 1) (H := mpH h x (r1,r2)) (nb := h.length + 8) (lo := h.length) (step := mpT (r1,r2)) (Iv := mpI (r1,r2)) o ok hlen (by omega) (fun st X hX hq hi => mpT_I hrn.lt st X hX hq hi) (fun st X fr hX hq hi => mp_yield (x := x) h (r1,r2) hrn.lt st X fr hX hi) hc hQ (false,[],0,.dead) ⟨fun hh => by have := hrn.lo; simp only at this hh; omega,by simp,by omega⟩
 obtain ⟨st,hst⟩ : ∃ st,st = xs.foldl (mpT (r1,r2)) (false,[],0,.dead) := ⟨_,rfl⟩
 have hs1 := mpT_fst (r1,r2) xs (false,[],0,.dead)
 rw [← hst] at g2 hs1
 have hs2 : st.2.1 = mapL (r1,r2) xs := by unfold mapL; rw [← hs1]
 obtain ⟨f,K',vb⟩ := st
 simp only at hs2
 subst hs2
 have hq : qks (mapL (r1,r2) xs) = kqs ((a :: K).map qk) := by rw [m.eq]; rfl
 have hne : qks (mapL (r1,r2) xs) ≠ [] := by rw [hq]; simp [kqs]
 have g3 := w_rfn (L := lib) (lo := h.length) (ns := 8) (s := 0) (g := 3) (it := 89) (v := 0) (caps := [lvP x]) (env := mpEnv h x) (h := h) (b := .dead)
  (fr := [(0,.dead),(0,.dead),(0,.dead),(0,.dead),(1,.box [.bool false]),(1,.box [.nilSl]),(1,.box [.int .i64 r1,.int .i64 r2]),(1,.box [.nilSl])])
  (fr' := [(1,.rcd (mpD h x) .ready),vb,(0,.dead),accB (0,.dead) 4 (qks (mapL (r1,r2) xs)),(1,.box [.bool f]),(1,.box [accV (h.length + 3) (0,.dead) 4 (qks (mapL (r1,r2) xs))]),(1,.box [.int .i64 r1,.int .i64 r2]),(1,.box [.nilSl])])
  (f := .t 35) rfl (by omega) rfl g2 rfl
 have pv := fun fr (hfr : fr[3]? = some (accB (0,.dead) 4 (qks (mapL (r1,r2) xs)))) lo => by
  have s1 := Sl.acc (h := h) (fr := fr) (s := 3) (z := 4) (b0 := (0,.dead)) (es := qks (mapL (r1,r2) xs)) hfr
  rw [hq] at s1
  exact pvalid_run s1 (by have := m.len; simp; omega) (fun b hb => by obtain ⟨p,hp,rfl⟩ := List.mem_map.mp hb; exact fitk_of (hmp p hp)) lo
 rw [← hq,hmv] at pv
 have pv := fun lo => pv [(1 + 0,.dead),vb,(0,.dead),accB (0,.dead) 4 (qks (mapL (r1,r2) xs)),(1,.box [.bool f]),(1,.box [accV (h.length + 3) (0,.dead) 4 (qks (mapL (r1,r2) xs))]),(1,.box [.int .i64 r1,.int .i64 r2]),(1,.box [.nilSl])] rfl lo
 have fz := fun kk m => frz_acc (h := h) (s := 3) (z := 4) (k := kk) (b0 := (0,.dead)) (es := qks (mapL (r1,r2) xs)) (fr := [(1 + 0,.dead),vb,(0,.dead),accB (0,.dead) 4 (qks (mapL (r1,r2) xs)),(1,.box [.bool f]),(1,.box [accV (h.length + 3) (0,.dead) 4 (qks (mapL (r1,r2) xs))]),(1,.box [.int .i64 r1,.int .i64 r2]),(1,.box [m])]) rfl
 rw [show lstV 4 (qks (mapL (r1,r2) xs)) = .lst 4 (qks (mapL (r1,r2) xs)) from if_neg hne] at fz
 simp only [mpEnv,List.set_cons_zero] at g3
 unfold lvV at er dc ⊢
 rw [run_closed (x := x26) rfl rfl rfl rfl]
 have hk3 : ¬ (k : Int) < 0 := by omega
 have hk4 : ¬ ((runsL x.l).length : Int) ≤ (k : Int) := by omega
 simp (maxSteps := 30000000) (disch := omega) only [go_sem,x26,er,dc,ll,hk2,hk3,hk4,e3,e4,g3,pv,fz,accV_cells,accV_val]
end Go.VI.Dump
