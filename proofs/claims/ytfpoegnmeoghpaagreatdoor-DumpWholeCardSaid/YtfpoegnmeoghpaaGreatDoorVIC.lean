/- How abstract values and the abstract memory stand to the machine's: the relation, the steps that keep it. -/
import Derived.Test.YtfpoegnmeoghpaaGreatDoorVIB
import Derived.Lib.UnsafeStr
set_option linter.unusedVariables false
set_option linter.unusedSimpArgs false
namespace Go.VI
def memIs (w : World) (b o : Nat) (vs : List Value) : Prop := ∀ j v,vs[j]? = some v → w.cell? ⟨b,o + j,none⟩ = some v
def ones (vs : List Value) : Prop := ∀ u ∈ vs,u.oneCell' = true
def fnV (f : Nat) (vs : List Value) : Value := if f < 1000 then .func (.func f) #[] vs.toArray else .func (.func (f - 1000)) vs.toArray #[]
mutual
def RC (w : World) (X : Nat → Prop) : AV → Value → Prop
 | .undef,_ => True
 | .bool b,v => v = .bool b
 | .int k n,v => v = .int k n
 | .str l,v => v = .string ⟨l.toArray⟩
 | .agg cs,v => ∃ vs : List Value,v = .agg vs.toArray ∧ ones vs ∧ RCL w X cs vs
 | .tuple cs,v => ∃ vs : List Value,v = .tuple vs.toArray ∧ RCL w X cs vs
 | .fn f cs,v => ∃ vs : List Value,v = fnV f vs ∧ RCL w X cs vs
 | .nilFn,v => v = .nilFunc
 | .nilIf,v => v = .nilIface
 | .ifc t x,v => ∃ u,v = .iface t u ∧ RC w X x u
 | .nilSl,v => v = .slice none 0 0
 | .lst z es,v => ∃ a cap,v = .slice a es.length cap ∧ es.length ≤ cap ∧ (es = [] ∨ ∃ b o,a = some ⟨b,o,none⟩ ∧ b < w.heap.size ∧ ¬ X b ∧ 0 < z ∧ RCE w X z es b o)
 | .lsf z es,v => ∃ a,v = .slice a es.length es.length ∧ (es = [] ∨ ∃ b o,a = some ⟨b,o,none⟩ ∧ b < w.heap.size ∧ ¬ X b ∧ 0 < z ∧ RCE w X z es b o)
 | .nilPtr,v => v = .pointer none
 | .cptr cs,v => ∃ b o,v = .pointer (some ⟨b,o,none⟩) ∧ b < w.heap.size ∧ ¬ X b ∧ RCM w X cs b o
 | .own _ _,_ => False
 | .ref ..,_ => False
 | .bptr ..,_ => False
 | .iptr ..,_ => False
 | .yld ..,_ => False
def RCL (w : World) (X : Nat → Prop) : List AV → List Value → Prop
 | [],vs => vs = []
 | c :: cs,vs => ∃ u us,vs = u :: us ∧ RC w X c u ∧ RCL w X cs us
def RCM (w : World) (X : Nat → Prop) : List AV → Nat → Nat → Prop
 | [],_,_ => True
 | c :: cs,b,o => (∃ u,w.cell? ⟨b,o,none⟩ = some u ∧ u.oneCell' = true ∧ RC w X c u) ∧ RCM w X cs b (o + 1)
def RCE (w : World) (X : Nat → Prop) (z : Nat) : List AV → Nat → Nat → Prop
 | [],_,_ => True
 | e :: es,b,o => (∃ v,RC w X e v ∧ v.cells.size = z ∧ ones v.cells.toList ∧ memIs w b o v.cells.toList) ∧ RCE w X z es b (o + z)
end
structure Keep (w : World) (X : Nat → Prop) (w' : World) (X' : Nat → Prop) : Prop where
 size : w.heap.size ≤ w'.heap.size
 cell : ∀ {b o : Nat},b < w.heap.size → ¬ X b → w'.cell? ⟨b,o,none⟩ = w.cell? ⟨b,o,none⟩
 live : ∀ b,X' b → X b ∨ w.heap.size ≤ b
section
variable {w : World} {X : Nat → Prop} {w' : World} {X' : Nat → Prop}
theorem Keep.memIs (hk : Keep w X w' X') {b o : Nat} {vs : List Value} (hb : b < w.heap.size) (hx : ¬ X b) (h : memIs w b o vs) : VI.memIs w' b o vs :=
 fun j v hj => (hk.cell hb hx).trans (h j v hj)
theorem Keep.out (hk : Keep w X w' X') {b : Nat} (hb : b < w.heap.size) (hx : ¬ X b) : b < w'.heap.size ∧ ¬ X' b :=
 ⟨Nat.lt_of_lt_of_le hb hk.size,fun h => (hk.live b h).elim hx (fun h => by omega)⟩
mutual
theorem RC.keep (hk : Keep w X w' X') : ∀ (a : AV) (v : Value),RC w X a v → RC w' X' a v
 | .undef,_,_ => by simp [RC]
 | .bool _,_,h | .int _ _,_,h | .str _,_,h | .nilFn,_,h | .nilIf,_,h | .nilSl,_,h | .nilPtr,_,h => by simpa [RC] using h
 | .agg cs,v,h => by
  simp only [RC] at h ⊢
  obtain ⟨vs,e,h1,h2⟩ := h
  exact ⟨vs,e,h1,RCL.keep hk cs vs h2⟩
 | .tuple cs,v,h | .fn _ cs,v,h => by
  simp only [RC] at h ⊢
  obtain ⟨vs,e,h2⟩ := h
  exact ⟨vs,e,RCL.keep hk cs vs h2⟩
 | .ifc t x,v,h => by
  simp only [RC] at h ⊢
  obtain ⟨u,e,h2⟩ := h
  exact ⟨u,e,RC.keep hk x u h2⟩
 | .lst z es,v,h => by
  simp only [RC] at h ⊢
  obtain ⟨a,cap,e,hc,h2⟩ := h
  refine ⟨a,cap,e,hc,h2.imp id ?_⟩
  rintro ⟨b,o,ea,hb,hx,hz,he⟩
  exact ⟨b,o,ea,(hk.out hb hx).1,(hk.out hb hx).2,hz,RCE.keep hk z es b o hb hx he⟩
 | .lsf z es,v,h => by
  simp only [RC] at h ⊢
  obtain ⟨a,e,h2⟩ := h
  refine ⟨a,e,h2.imp id ?_⟩
  rintro ⟨b,o,ea,hb,hx,hz,he⟩
  exact ⟨b,o,ea,(hk.out hb hx).1,(hk.out hb hx).2,hz,RCE.keep hk z es b o hb hx he⟩
 | .cptr cs,v,h => by
  simp only [RC] at h ⊢
  obtain ⟨b,o,e,hb,hx,hm⟩ := h
  exact ⟨b,o,e,(hk.out hb hx).1,(hk.out hb hx).2,RCM.keep hk cs b o hb hx hm⟩
 | .own _ _,_,h | .ref ..,_,h | .bptr ..,_,h | .iptr ..,_,h | .yld ..,_,h => by simp [RC] at h
theorem RCL.keep (hk : Keep w X w' X') : ∀ (cs : List AV) (vs : List Value),RCL w X cs vs → RCL w' X' cs vs
 | [],_,h => by simpa [RCL] using h
 | c :: cs,vs,h => by
  simp only [RCL] at h ⊢
  obtain ⟨u,us,e,h1,h2⟩ := h
  exact ⟨u,us,e,RC.keep hk c u h1,RCL.keep hk cs us h2⟩
theorem RCM.keep (hk : Keep w X w' X') : ∀ (cs : List AV) (b o : Nat),b < w.heap.size → ¬ X b → RCM w X cs b o → RCM w' X' cs b o
 | [],_,_,_,_,_ => by simp [RCM]
 | c :: cs,b,o,hb,hx,h => by
  simp only [RCM] at h ⊢
  obtain ⟨⟨u,h1,h2,h3⟩,h4⟩ := h
  exact ⟨⟨u,(hk.cell hb hx).trans h1,h2,RC.keep hk c u h3⟩,RCM.keep hk cs b (o + 1) hb hx h4⟩
theorem RCE.keep (hk : Keep w X w' X') (z : Nat) : ∀ (es : List AV) (b o : Nat),b < w.heap.size → ¬ X b → RCE w X z es b o → RCE w' X' z es b o
 | [],_,_,_,_,_ => by simp [RCE]
 | e :: es,b,o,hb,hx,h => by
  simp only [RCE] at h ⊢
  obtain ⟨⟨v,h1,h2,h3,h4⟩,h5⟩ := h
  exact ⟨⟨v,RC.keep hk e v h1,h2,h3,hk.memIs hb hx h4⟩,RCE.keep hk z es b (o + z) hb hx h5⟩
end
end
theorem Keep.weaken {w : World} {X X' : Nat → Prop} (h : ∀ b,X' b → X b) : Keep w X w X' := ⟨Nat.le_refl _,fun _ _ => rfl,fun b hb => .inl (h b hb)⟩
theorem Keep.refl (w : World) (X : Nat → Prop) : Keep w X w X := Keep.weaken fun _ h => h
abbrev Map := List Nat   -- of each abstract block: the machine's
def Live (m : Map) (h : Heap) (b : Nat) : Prop := ∃ (id ver : Nat) (blk : Blk),h[id]? = some (ver,blk) ∧ blk ≠ Blk.dead ∧ m[id]? = some b
def bsize (w : World) (b : Nat) : Nat := match w.heap[b]? with | some (.cells c _ _) => c.size | _ => 0
def RefAt (w : World) (m : Map) (h : Heap) (id ver z off fill : Nat) (a : Option Addr) (cap : Nat) : Prop :=
 ∃ v0 blk,h[id]? = some (v0,blk) ∧ ver ≤ v0 ∧ (ver = v0 → ∀ z' es,blk = .arr z' es → z' = z ∧ fill ≤ es.length ∧ (fill = es.length → ∃ b,m[id]? = some b ∧
  (cap = 0 ∨ (a = some ⟨b,off * z,none⟩ ∧ fill ≤ off + cap ∧ (off + cap) * z ≤ bsize w b))))
def BoxAt (m : Map) (h : Heap) (id ver off : Nat) (a : Addr) : Prop :=
 ∃ v0 blk,h[id]? = some (v0,blk) ∧ ver ≤ v0 ∧ (ver = v0 → ∀ cs,blk = .box cs → ∃ b,m[id]? = some b ∧ a = ⟨b,off,none⟩)
def RS.knd : RS → Nat
 | .spc (.map ..) => 1
 | .spc _ => 2
 | _ => 0
def refV : Nat → Nat → Value
 | 0,l => .func (.yield l) #[] #[]
 | 1,l => .map (some l)
 | _,l => .pointer (some ⟨l,0,none⟩)
def KAt (m : Map) (h : Heap) (id ver k l : Nat) : Prop :=
 ∃ v0 blk,h[id]? = some (v0,blk) ∧ ver ≤ v0 ∧ (ver = v0 → ∀ d st,blk = .rcd d st → st.knd = k ∧ m[id]? = some l)
def YldAt (m : Map) (h : Heap) (id ver l : Nat) : Prop :=
 ∃ v0 blk,h[id]? = some (v0,blk) ∧ ver ≤ v0 ∧ (ver = v0 → ∀ d st,blk = .rcd d st → m[id]? = some l)
def ElemAt (m : Map) (h : Heap) (id ver z fill : Nat) (i off : Nat) (a : Addr) : Prop :=
 ∃ v0 blk,h[id]? = some (v0,blk) ∧ ver ≤ v0 ∧ (ver = v0 → ∀ z' es,blk = .arr z' es → z' = z ∧ fill ≤ es.length ∧ (fill = es.length → ∃ b,m[id]? = some b ∧ a = ⟨b,i * z + off,none⟩))
mutual
def R (w : World) (X : Nat → Prop) (m : Map) (h : Heap) : AV → Value → Prop
 | .agg cs,v => ∃ vs : List Value,v = .agg vs.toArray ∧ ones vs ∧ RL w X m h cs vs
 | .tuple cs,v => ∃ vs : List Value,v = .tuple vs.toArray ∧ RL w X m h cs vs
 | .fn f cs,v => ∃ vs : List Value,v = fnV f vs ∧ RL w X m h cs vs
 | .ifc t x,v => ∃ u,v = .iface t u ∧ R w X m h x u
 | .ref id ver z off len fill,v => ∃ a cap,v = .slice a len cap ∧ len ≤ cap ∧ (a = none → cap = 0) ∧ RefAt w m h id ver z off fill a cap
 | .bptr id ver off,v => ∃ a,v = .pointer (some a) ∧ BoxAt m h id ver off a
 | .iptr (.lst _ es) i off,v => ∃ b o,v = .pointer (some ⟨b,o,none⟩) ∧ ∀ e,es[i]? = some e → b < w.heap.size ∧ ¬ X b ∧ RCM w X (e.cells.drop off) b o
 | .iptr (.lsf _ es) i off,v => ∃ b o,v = .pointer (some ⟨b,o,none⟩) ∧ ∀ e,es[i]? = some e → b < w.heap.size ∧ ¬ X b ∧ RCM w X (e.cells.drop off) b o
 | .iptr (.ref id ver z o _ fill) i off,v => ∃ a,v = .pointer (some a) ∧ ElemAt m h id ver z fill (o + i) off a
 | .iptr _ _ _,_ => False
 | .yld id ver,v => ∃ k l,v = refV k l ∧ KAt m h id ver k l
 | .undef,_ => True
 | .bool b,v => RC w X (.bool b) v
 | .int k n,v => RC w X (.int k n) v
 | .str l,v => RC w X (.str l) v
 | .nilFn,v => RC w X .nilFn v
 | .nilIf,v => RC w X .nilIf v
 | .nilSl,v => RC w X .nilSl v
 | .lst z es,v => RC w X (.lst z es) v
 | .lsf z es,v => RC w X (.lsf z es) v
 | .nilPtr,v => RC w X .nilPtr v
 | .cptr cs,v => RC w X (.cptr cs) v
 | .own _ _,_ => False
def RL (w : World) (X : Nat → Prop) (m : Map) (h : Heap) : List AV → List Value → Prop
 | [],vs => vs = []
 | c :: cs,vs => ∃ u us,vs = u :: us ∧ R w X m h c u ∧ RL w X m h cs us
end
def Evol (w : World) (m : Map) (w' : World) (m' : Map) (id : Nat) (blk blk' : Blk) : Prop :=
 blk' = .dead ∨ (∃ cs cs',blk = .box cs ∧ blk' = .box cs' ∧ m'[id]? = m[id]?) ∨ (∃ d st d' st',blk = .rcd d st ∧ blk' = .rcd d' st' ∧ m'[id]? = m[id]? ∧ st'.knd = st.knd ∧ ∀ l,st' = .spc (.buf l) → st = .spc (.buf l) ∧ ∀ b,m[id]? = some b → bsize w' b = bsize w b) ∨
 ∃ z es es',blk = .arr z es ∧ blk' = .arr z es' ∧ es.length ≤ es'.length ∧ (es.length = es'.length → m'[id]? = m[id]? ∧ ∀ b,m[id]? = some b → bsize w b ≤ bsize w' b)
def Ids (w : World) (m : Map) (h : Heap) (w' : World) (m' : Map) (h' : Heap) : Prop :=
 ∀ (id v : Nat) (blk : Blk),h[id]? = some (v,blk) → ∃ v' blk',h'[id]? = some (v',blk') ∧ v ≤ v' ∧ (v = v' → Evol w m w' m' id blk blk')
structure Step (lo : Nat) (w : World) (m : Map) (h : Heap) (w' : World) (m' : Map) (h' : Heap) : Prop where
 os : w'.os = w.os
 tape : w'.tape = w.tape
 output : w'.output = w.output
 len : h'.length = h.length
 old : ∀ b,b < w.heap.size → ¬ Live m h b → w'.heap[b]? = w.heap[b]?
 keep : Keep w (Live m h) w' (Live m' h')
 low : ∀ (id : Nat),id < lo → h'[id]? = h[id]? ∧ m'[id]? = m[id]? ∧ ∀ (ver : Nat) (blk : Blk) (b : Nat),h[id]? = some (ver,blk) → blk ≠ .dead → m[id]? = some b → w'.heap[b]? = w.heap[b]?
 ids : Ids w m h w' m' h'
 fresh : ∀ (id v : Nat) (blk : Blk) (b : Nat),h'[id]? = some (v,blk) → blk ≠ .dead → m'[id]? = some b → (m[id]? = some b ∧ ∃ v0 blk0,h[id]? = some (v0,blk0) ∧ blk0 ≠ .dead) ∨ w.heap.size ≤ b
section
variable {lo : Nat} {w : World} {m : Map} {h : Heap} {w' : World} {m' : Map} {h' : Heap}
theorem Evol.refl (w : World) (m : Map) (id : Nat) (blk : Blk) : Evol w m w m id blk blk := by
 cases blk with
 | dead => exact .inl rfl
 | box cs => exact .inr (.inl ⟨cs,cs,rfl,rfl,rfl⟩)
 | rcd d st => exact .inr (.inr (.inl ⟨d,st,d,st,rfl,rfl,rfl,rfl,fun l e => ⟨e,fun _ _ => rfl⟩⟩))
 | arr z es => exact .inr (.inr (.inr ⟨z,es,es,rfl,rfl,Nat.le_refl _,fun _ => ⟨rfl,fun _ _ => Nat.le_refl _⟩⟩))
theorem RefAt.step (hs : Ids w m h w' m' h') {id ver z off fill : Nat} {a : Option Addr} {cap : Nat} (hr : RefAt w m h id ver z off fill a cap) : RefAt w' m' h' id ver z off fill a cap := by
 obtain ⟨v0,blk,hi,hv,hr⟩ := hr
 obtain ⟨v',blk',hi',hle,hev⟩ := hs id v0 blk hi
 refine ⟨v',blk',hi',by omega,fun he z' es hes => ?_⟩
 have e1 : v0 = v' := by omega
 have e2 : ver = v0 := by omega
 rcases hev e1 with hd | ⟨cs,cs',_,hc,_⟩ | ⟨_,_,_,_,_,hc,_⟩ | ⟨z0,es0,es',hb,hb',hlen,hsame⟩
 ·rw [hd] at hes; cases hes
 ·rw [hc] at hes; cases hes
 ·rw [hc] at hes; cases hes
 ·rw [hb'] at hes
  cases hes
  obtain ⟨hz,h1,h2⟩ := hr e2 z' es0 hb
  refine ⟨hz,by omega,fun hf => ?_⟩
  obtain ⟨b,hm,h3⟩ := h2 (by omega)
  obtain ⟨hm',hsz⟩ := hsame (by omega)
  refine ⟨b,hm'.trans hm,Or.imp_right ?_ h3⟩
  rintro ⟨ea,h4,h5⟩
  exact ⟨ea,h4,Nat.le_trans h5 (hsz b hm)⟩
theorem BoxAt.step (hs : Ids w m h w' m' h') {id ver off : Nat} {a : Addr} (hr : BoxAt m h id ver off a) : BoxAt m' h' id ver off a := by
 obtain ⟨v0,blk,hi,hv,hr⟩ := hr
 obtain ⟨v',blk',hi',hle,hev⟩ := hs id v0 blk hi
 refine ⟨v',blk',hi',by omega,fun he cs hcs => ?_⟩
 have e1 : v0 = v' := by omega
 have e2 : ver = v0 := by omega
 rcases hev e1 with hd | ⟨cs0,cs',hb,hc,hm⟩ | ⟨_,_,_,_,_,hc,_⟩ | ⟨z0,es0,es',hb,hb',_⟩
 ·rw [hd] at hcs; cases hcs
 ·obtain ⟨b,h1,h2⟩ := hr e2 cs0 hb
  exact ⟨b,hm.trans h1,h2⟩
 ·rw [hc] at hcs; cases hcs
 ·rw [hb'] at hcs; cases hcs
theorem YldAt.step (hs : Ids w m h w' m' h') {id ver l : Nat} (hr : YldAt m h id ver l) : YldAt m' h' id ver l := by
 obtain ⟨v0,blk,hi,hv,hr⟩ := hr
 obtain ⟨v',blk',hi',hle,hev⟩ := hs id v0 blk hi
 refine ⟨v',blk',hi',by omega,fun he d st hd => ?_⟩
 have e1 : v0 = v' := by omega
 have e2 : ver = v0 := by omega
 rcases hev e1 with hx | ⟨cs0,cs',hb,hc,hm⟩ | ⟨d0,st0,_,_,hb,hc,hm,_⟩ | ⟨z0,es0,es',hb,hb',_⟩
 ·rw [hx] at hd; cases hd
 ·rw [hc] at hd; cases hd
 ·exact hm.trans (hr e2 d0 st0 hb)
 ·rw [hb'] at hd; cases hd
theorem KAt.step (hs : Ids w m h w' m' h') {id ver k l : Nat} (hr : KAt m h id ver k l) : KAt m' h' id ver k l := by
 obtain ⟨v0,blk,hi,hv,hr⟩ := hr
 obtain ⟨v',blk',hi',hle,hev⟩ := hs id v0 blk hi
 refine ⟨v',blk',hi',by omega,fun he d st hd => ?_⟩
 have e1 : v0 = v' := by omega
 have e2 : ver = v0 := by omega
 rcases hev e1 with hx | ⟨cs0,cs',hb,hc,hm⟩ | ⟨d0,st0,d1,st1,hb,hc,hm,hkn,_⟩ | ⟨z0,es0,es',hb,hb',_⟩
 ·rw [hx] at hd; cases hd
 ·rw [hc] at hd; cases hd
 ·obtain ⟨k1,k2⟩ := hr e2 d0 st0 hb
  rw [hc] at hd
  cases hd
  exact ⟨hkn.trans k1,hm.trans k2⟩
 ·rw [hb'] at hd; cases hd
def BufAt (w : World) (m : Map) (h : Heap) (id ver g n cap : Nat) : Prop :=
 ∃ v0 blk,h[id]? = some (v0,blk) ∧ ver ≤ v0 ∧ (ver = v0 → ∀ d l,blk = .rcd d (.spc (.buf l)) → m[id]? = some g ∧ n = l.length ∧ bsize w g = cap)
theorem BufAt.step (hs : Ids w m h w' m' h') {id ver g n cap : Nat} (hr : BufAt w m h id ver g n cap) : BufAt w' m' h' id ver g n cap := by
 obtain ⟨v0,blk,hi,hv,hr⟩ := hr
 obtain ⟨v',blk',hi',hle,hev⟩ := hs id v0 blk hi
 refine ⟨v',blk',hi',by omega,fun he d l hd => ?_⟩
 have e1 : v0 = v' := by omega
 have e2 : ver = v0 := by omega
 rcases hev e1 with hx | ⟨cs0,cs',hb,hc,hm⟩ | ⟨d0,st0,d1,st1,hb,hc,hm,hkn,hbf⟩ | ⟨z0,es0,es',hb,hb',_⟩
 ·rw [hx] at hd; cases hd
 ·rw [hc] at hd; cases hd
 ·rw [hc] at hd
  cases hd
  obtain ⟨q1,q2⟩ := hbf l rfl
  obtain ⟨k1,k2,k3⟩ := hr e2 d0 l (by rw [hb,q1])
  exact ⟨hm.trans k1,k2,(q2 g k1).trans k3⟩
 ·rw [hb'] at hd; cases hd
theorem ElemAt.step (hs : Ids w m h w' m' h') {id ver z fill i off : Nat} {a : Addr} (hr : ElemAt m h id ver z fill i off a) : ElemAt m' h' id ver z fill i off a := by
 obtain ⟨v0,blk,hi,hv,hr⟩ := hr
 obtain ⟨v',blk',hi',hle,hev⟩ := hs id v0 blk hi
 refine ⟨v',blk',hi',by omega,fun he z' es hes => ?_⟩
 have e1 : v0 = v' := by omega
 have e2 : ver = v0 := by omega
 rcases hev e1 with hd | ⟨cs,cs',_,hc,_⟩ | ⟨_,_,_,_,_,hc,_⟩ | ⟨z0,es0,es',hb,hb',hlen,hsame⟩
 ·rw [hd] at hes; cases hes
 ·rw [hc] at hes; cases hes
 ·rw [hc] at hes; cases hes
 ·rw [hb'] at hes
  cases hes
  obtain ⟨hz,h1,h2⟩ := hr e2 z' es0 hb
  refine ⟨hz,by omega,fun hf => ?_⟩
  obtain ⟨b,hm,h3⟩ := h2 (by omega)
  exact ⟨b,(hsame (by omega)).1.trans hm,h3⟩
variable {X X' : Nat → Prop}
mutual
theorem R.step (hs : Ids w m h w' m' h') (hk : Keep w X w' X') : ∀ (a : AV) (v : Value),R w X m h a v → R w' X' m' h' a v
 | .undef,_,_ => by simp [R]
 | .bool _,v,hr | .int _ _,v,hr | .str _,v,hr | .nilFn,v,hr | .nilIf,v,hr | .nilSl,v,hr | .nilPtr,v,hr | .lst _ _,v,hr | .lsf _ _,v,hr | .cptr _,v,hr => by
  simp only [R] at hr ⊢
  exact RC.keep hk _ _ hr
 | .agg cs,v,hr => by
  simp only [R] at hr ⊢
  obtain ⟨vs,e,h1,h2⟩ := hr
  exact ⟨vs,e,h1,RL.step hs hk cs vs h2⟩
 | .tuple cs,v,hr | .fn _ cs,v,hr => by
  simp only [R] at hr ⊢
  obtain ⟨vs,e,h2⟩ := hr
  exact ⟨vs,e,RL.step hs hk cs vs h2⟩
 | .ifc t x,v,hr => by
  simp only [R] at hr ⊢
  obtain ⟨u,e,h2⟩ := hr
  exact ⟨u,e,R.step hs hk x u h2⟩
 | .ref id ver z off len fill,v,hr => by
  simp only [R] at hr ⊢
  obtain ⟨a,cap,e,hc,hn,hr⟩ := hr
  exact ⟨a,cap,e,hc,hn,hr.step hs⟩
 | .bptr id ver off,v,hr => by
  simp only [R] at hr ⊢
  obtain ⟨a,e,hr⟩ := hr
  exact ⟨a,e,hr.step hs⟩
 | .iptr u i off,v,hr => by
  cases u with
  | lst z es | lsf z es =>
   simp only [R] at hr ⊢
   obtain ⟨b,o,e,hr⟩ := hr
   refine ⟨b,o,e,fun q hq => ?_⟩
   obtain ⟨h1,h2,h3⟩ := hr q hq
   exact ⟨(hk.out h1 h2).1,(hk.out h1 h2).2,RCM.keep hk _ _ _ h1 h2 h3⟩
  | ref id ver z o len fill =>
   simp only [R] at hr ⊢
   obtain ⟨a,e,hr⟩ := hr
   exact ⟨a,e,hr.step hs⟩
  | _ => simp [R] at hr
 | .yld id ver,v,hr => by
  simp only [R] at hr ⊢
  obtain ⟨k,l,e,hr⟩ := hr
  exact ⟨k,l,e,hr.step hs⟩
 | .own _ _,_,hr => by simp [R] at hr
theorem RL.step (hs : Ids w m h w' m' h') (hk : Keep w X w' X') : ∀ (cs : List AV) (vs : List Value),RL w X m h cs vs → RL w' X' m' h' cs vs
 | [],_,hr => by simpa [RL] using hr
 | c :: cs,vs,hr => by
  simp only [RL] at hr ⊢
  obtain ⟨u,us,e,h1,h2⟩ := hr
  exact ⟨u,us,e,R.step hs hk c u h1,RL.step hs hk cs us h2⟩
end
mutual
theorem R.of_RC : ∀ (a : AV) (v : Value),RC w X a v → R w X m h a v
 | .undef,_,_ => by simp [R]
 | .bool _,v,hr | .int _ _,v,hr | .str _,v,hr | .nilFn,v,hr | .nilIf,v,hr | .nilSl,v,hr | .nilPtr,v,hr | .lst _ _,v,hr | .lsf _ _,v,hr | .cptr _,v,hr => by
  simp only [R]; exact hr
 | .agg cs,v,hr => by
  simp only [R,RC] at hr ⊢
  obtain ⟨vs,e,h1,h2⟩ := hr
  exact ⟨vs,e,h1,RL.of_RCL cs vs h2⟩
 | .tuple cs,v,hr | .fn _ cs,v,hr => by
  simp only [R,RC] at hr ⊢
  obtain ⟨vs,e,h2⟩ := hr
  exact ⟨vs,e,RL.of_RCL cs vs h2⟩
 | .ifc t x,v,hr => by
  simp only [R,RC] at hr ⊢
  obtain ⟨u,e,h2⟩ := hr
  exact ⟨u,e,R.of_RC x u h2⟩
 | .own _ _,_,hr | .ref ..,_,hr | .bptr ..,_,hr | .iptr ..,_,hr | .yld ..,_,hr => by simp [RC] at hr
theorem RL.of_RCL : ∀ (cs : List AV) (vs : List Value),RCL w X cs vs → RL w X m h cs vs
 | [],_,hr => by simpa [RL,RCL] using hr
 | c :: cs,vs,hr => by
  simp only [RL,RCL] at hr ⊢
  obtain ⟨u,us,e,h1,h2⟩ := hr
  exact ⟨u,us,e,R.of_RC c u h1,RL.of_RCL cs us h2⟩
end
mutual
theorem R.closed : ∀ (a : AV) (v : Value),a.closed = true → R w X m h a v → RC w X a v
 | .undef,_,_,_ => by simp [RC]
 | .bool _,v,_,hr | .int _ _,v,_,hr | .str _,v,_,hr | .nilFn,v,_,hr | .nilIf,v,_,hr | .nilSl,v,_,hr | .nilPtr,v,_,hr | .lst _ _,v,_,hr | .lsf _ _,v,_,hr | .cptr _,v,_,hr => by
  simpa only [R] using hr
 | .agg cs,v,hc,hr => by
  simp only [R,RC] at hr ⊢
  obtain ⟨vs,e,h1,h2⟩ := hr
  exact ⟨vs,e,h1,RL.closed cs vs (by simpa [AV.closed] using hc) h2⟩
 | .tuple cs,v,hc,hr | .fn _ cs,v,hc,hr => by
  simp only [R,RC] at hr ⊢
  obtain ⟨vs,e,h2⟩ := hr
  exact ⟨vs,e,RL.closed cs vs (by simpa [AV.closed] using hc) h2⟩
 | .ifc t x,v,hc,hr => by
  simp only [R,RC] at hr ⊢
  obtain ⟨u,e,h2⟩ := hr
  exact ⟨u,e,R.closed x u (by simpa [AV.closed] using hc) h2⟩
 | .own _ _,_,hc,_ | .ref ..,_,hc,_ | .bptr ..,_,hc,_ | .iptr ..,_,hc,_ | .yld ..,_,hc,_ => by simp [AV.closed] at hc
theorem RL.closed : ∀ (cs : List AV) (vs : List Value),AV.closedL cs = true → RL w X m h cs vs → RCL w X cs vs
 | [],_,_,hr => by simpa [RL,RCL] using hr
 | c :: cs,vs,hc,hr => by
  simp only [RL,RCL] at hr ⊢
  simp only [AV.closedL,Bool.and_eq_true] at hc
  obtain ⟨u,us,e,h1,h2⟩ := hr
  exact ⟨u,us,e,R.closed c u hc.1 h1,RL.closed cs us hc.2 h2⟩
end
end
def ARR (w : World) (X : Nat → Prop) (z : Nat) (es : List AV) (c : List Value) : Prop :=
 es.length * z ≤ c.length ∧ ∀ i e,es[i]? = some e → ∃ v : Value,RC w X e v ∧ v.cells.size = z ∧ ones v.cells.toList ∧ ∀ j u,v.cells.toList[j]? = some u → c[i * z + j]? = some u
def BlkOk (w : World) (X : Nat → Prop) (m : Map) (h : Heap) (c : List Value) : Blk → Prop
 | .dead => True
 | .box cs => ones c ∧ RL w X m h cs c
 | .arr z es => 0 < z ∧ ARR w X z es c
 | .rcd .. => True
class Rounds where
 ok : Nat → Nat → Array Tmp → Code → Code → Prop
class Globs where
 glob : Nat → List AV → Bool
 bldT : TypeId := 0
 byteT : TypeId := 0
 bldF : Nat → Bool := fun _ => false
 bstF : Nat → Bool := fun _ => false
def GlobOk [Globs] (w : World) (X : Nat → Prop) : Prop := ∀ g cs,Globs.glob g cs = true → g < w.heap.size ∧ ¬ X g ∧ RCM w X cs g 0 ∧ w.cell? ⟨g,cs.length,none⟩ = none
theorem GlobOk.keep [Globs] {w w' : World} {X X' : Nat → Prop} (h : GlobOk w X) (hk : Keep w X w' X') : GlobOk w' X' := fun g cs hg => by
 obtain ⟨h1,h2,h3,h4⟩ := h g cs hg
 refine ⟨Nat.lt_of_lt_of_le h1 hk.size,fun hx => ?_,RCM.keep hk cs g 0 h1 h2 h3,(hk.cell h1 h2).trans h4⟩
 rcases hk.live g hx with h4 | h4
 ·exact h2 h4
 ·omega
def Blk.mem : Blk → Bool
 | .box _ | .arr _ _ => true
 | _ => false
@[simp] theorem Blk.mem_box (cs : List AV) : (Blk.box cs).mem = true := rfl
@[simp] theorem Blk.mem_arr (z : Nat) (es : List AV) : (Blk.arr z es).mem = true := rfl
theorem Blk.mem_live {b : Blk} (h : b.mem = true) : b ≠ .dead := by rintro rfl; cases h
def jumpOf (i : Nat) : Code := if i < 1000 then .exit i else .goto (i - 1000)
def RS.is (st : RS) (r : Loop) : Prop :=
 match st with
 | .ready => r.state = .ready ∧ r.pending = none
 | .busy => r.state = .busy
 | .done (.exit i) => r.state = .done ∧ r.pending = some (jumpOf i)
 | .done .ret => r.state = .done ∧ r.pending = some .ret
 | .done .norm => False
 | .spc _ => False
def MR (w : World) (X : Nat → Prop) (k : IntKind) : List (Int × AV) → List MapEntry → Prop
 | [],es => es = []
 | (n,v) :: r,es => ∃ e es',es = e :: es' ∧ e.key = .int k n ∧ RC w X v e.val ∧ MR w X k r es'
theorem MR.keep {w : World} {X : Nat → Prop} {w' : World} {X' : Nat → Prop} (hk : Keep w X w' X') {k : IntKind} : ∀ {kvs : List (Int × AV)} {es : List MapEntry},MR w X k kvs es → MR w' X' k kvs es
 | [],_,h => h
 | (n,v) :: r,_,⟨e,es',h1,h2,h3,h4⟩ => ⟨e,es',h1,h2,RC.keep hk _ _ h3,h4.keep hk⟩
def LkOk (w : World) (m : Map) (h : Heap) : Option (Nat × Nat) → Value → Prop
 | none,v => v = .slice none 0 0
 | some (id2,ver2),v => ∃ g n cap,v = .slice (some ⟨g,0,none⟩) n cap ∧ BufAt w m h id2 ver2 g n cap
theorem LkOk.step {w : World} {m : Map} {h : Heap} {w' : World} {m' : Map} {h' : Heap} (hs : Ids w m h w' m' h') : ∀ {lk : Option (Nat × Nat)} {v : Value},LkOk w m h lk v → LkOk w' m' h' lk v
 | none,_,hr => hr
 | some (_,_),_,⟨g,n,cap,e,hr⟩ => ⟨g,n,cap,e,hr.step hs⟩
def SpcOk [Globs] (w : World) (X : Nat → Prop) (m : Map) (h : Heap) (o : Obj) : SD → Prop
 | .map k kvs => ∃ es clock,o = .map es clock ∧ MR w X k kvs es.toList
 | .bld me ver lk => ∃ b p v,o = .cells #[p,v] Globs.bldT (0,0) ∧ (p = .pointer none ∨ p = .pointer (some ⟨b,0,none⟩)) ∧ KAt m h me ver 2 b ∧ LkOk w m h lk v
 | .buf l => ∃ cur fz,o = .cells cur Globs.byteT fz ∧ fz.2 ≤ l.length ∧ l.length ≤ cur.size ∧ cur.size ≤ maxLen ∧ cur.toList.take l.length = Lib.byteCells l
def RcdOk [Globs] [Rounds] (w : World) (X : Nat → Prop) (m : Map) (h : Heap) (o : Obj) (d : Rcd) : RS → Prop
 | .spc sd => d.base + d.ns ≤ h.length ∧ d.env = sd.env ∧ SpcOk w X m h o sd
 | st => ∃ r : Loop,o = .loop r ∧ st.is r ∧ d.lo ≤ d.base ∧ d.base + d.ns ≤ h.length ∧ Rounds.ok d.g r.tmps.size r.params r.assign r.body ∧ ∀ t,R w X m h (d.env.get t) (r.tmps.getD t undef)
structure Inv [Globs] [Rounds] (w : World) (m : Map) (h : Heap) : Prop where
 len : m.length = h.length
 blk : ∀ (id ver : Nat) (blk : Blk),h[id]? = some (ver,blk) → blk.mem = true → ∃ b,∃ c : Array Value,∃ ty,m[id]? = some b ∧ w.heap[b]? = some (Obj.cells c ty (0,0)) ∧ BlkOk w (Live m h) m h c.toList blk
 rcd : ∀ (id ver : Nat) (d : Rcd) (st : RS),h[id]? = some (ver,.rcd d st) → ∃ b o,m[id]? = some b ∧ w.heap[b]? = some o ∧ RcdOk w (Live m h) m h o d st
 inj : ∀ (id id' v v' : Nat) (blk blk' : Blk) (b : Nat),h[id]? = some (v,blk) → blk ≠ .dead → m[id]? = some b → h[id']? = some (v',blk') → blk' ≠ .dead → m[id']? = some b → id = id'
 glob : GlobOk w (Live m h)
theorem ARR.keep {w w' : World} {X X' : Nat → Prop} (hk : Keep w X w' X') {z : Nat} {es : List AV} {c : List Value} (h : ARR w X z es c) : ARR w' X' z es c :=
 ⟨h.1,fun i e he => let ⟨v,h1,h2,h3,h4⟩ := h.2 i e he; ⟨v,RC.keep hk e v h1,h2,h3,h4⟩⟩
theorem BlkOk.ids {w : World} {m : Map} {h : Heap} {w' : World} {m' : Map} {h' : Heap} {X X' : Nat → Prop} (hs : Ids w m h w' m' h') (hk : Keep w X w' X') {c : List Value} {blk : Blk}
  (hb : BlkOk w X m h c blk) : BlkOk w' X' m' h' c blk := by
 cases blk with
 | dead => trivial
 | box cs => exact ⟨hb.1,RL.step hs hk cs c hb.2⟩
 | arr z es => exact ⟨hb.1,hb.2.keep hk⟩
 | rcd d st => trivial
theorem BlkOk.step {lo : Nat} {w : World} {m : Map} {h : Heap} {w' : World} {m' : Map} {h' : Heap} (hs : Step lo w m h w' m' h') {c : List Value} {blk : Blk}
  (hb : BlkOk w (Live m h) m h c blk) : BlkOk w' (Live m' h') m' h' c blk := hb.ids hs.ids hs.keep
theorem RcdOk.mk [Globs] [Rounds] {w : World} {X : Nat → Prop} {m : Map} {h : Heap} {d : Rcd} {st : RS} {r : Loop} (h1 : st.is r) (h2 : d.lo ≤ d.base) (h3 : d.base + d.ns ≤ h.length) (h4 : Rounds.ok d.g r.tmps.size r.params r.assign r.body) (h5 : ∀ t,R w X m h (d.env.get t) (r.tmps.getD t undef)) :
  RcdOk w X m h (.loop r) d st := by
 cases st with
 | spc sd => exact h1.elim
 | _ => exact ⟨r,rfl,h1,h2,h3,h4,h5⟩
theorem RcdOk.cases [Globs] [Rounds] {w : World} {X : Nat → Prop} {m : Map} {h : Heap} {o : Obj} {d : Rcd} {st : RS} (hb : RcdOk w X m h o d st) :
  (∃ sd,st = .spc sd ∧ d.base + d.ns ≤ h.length ∧ d.env = sd.env ∧ SpcOk w X m h o sd) ∨ ((∀ sd,st ≠ .spc sd) ∧ ∃ r : Loop,o = .loop r ∧ st.is r ∧ d.lo ≤ d.base ∧ d.base + d.ns ≤ h.length ∧ Rounds.ok d.g r.tmps.size r.params r.assign r.body ∧ ∀ t,R w X m h (d.env.get t) (r.tmps.getD t undef)) := by
 cases st with
 | spc sd => exact .inl ⟨sd,rfl,hb.1,hb.2.1,hb.2.2⟩
 | _ => exact .inr ⟨fun _ => by simp,hb⟩
theorem RcdOk.loop [Globs] [Rounds] {w : World} {X : Nat → Prop} {m : Map} {h : Heap} {o : Obj} {d : Rcd} {st : RS} (hb : RcdOk w X m h o d st) (hs : st.loop = true) :
  ∃ r : Loop,o = .loop r ∧ st.is r ∧ d.lo ≤ d.base ∧ d.base + d.ns ≤ h.length ∧ Rounds.ok d.g r.tmps.size r.params r.assign r.body ∧ ∀ t,R w X m h (d.env.get t) (r.tmps.getD t undef) := by
 rcases hb.cases with ⟨sd,rfl,_⟩ | ⟨_,h⟩
 ·cases hs
 ·exact h
theorem RS.knd_loop {st : RS} (h : st.loop = true) : st.knd = 0 := by
 cases st with
 | spc => cases h
 | _ => rfl
theorem SpcOk.ids [Globs] {w : World} {m : Map} {h : Heap} {w' : World} {m' : Map} {h' : Heap} {X X' : Nat → Prop} (hs : Ids w m h w' m' h') (hk : Keep w X w' X') {o : Obj} : ∀ {sd : SD},SpcOk w X m h o sd → SpcOk w' X' m' h' o sd
 | .map k kvs,⟨es,clock,e,hm⟩ => ⟨es,clock,e,hm.keep hk⟩
 | .bld me ver lk,⟨b,p,v,e,hp,h1,h2⟩ => ⟨b,p,v,e,hp,h1.step hs,h2.step hs⟩
 | .buf l,hb => hb
theorem RcdOk.ids [Globs] [Rounds] {w : World} {m : Map} {h : Heap} {w' : World} {m' : Map} {h' : Heap} {X X' : Nat → Prop} (hs : Ids w m h w' m' h') (hk : Keep w X w' X') (hl : h.length ≤ h'.length) {o : Obj} {d : Rcd} {st : RS}
  (hb : RcdOk w X m h o d st) : RcdOk w' X' m' h' o d st := by
 rcases hb.cases with ⟨sd,rfl,h0,h1,h2⟩ | ⟨_,r,rfl,h2,h3,h4,h5,h6⟩
 ·exact ⟨by omega,h1,h2.ids hs hk⟩
 ·exact RcdOk.mk h2 h3 (by omega) h5 fun t => R.step hs hk _ _ (h6 t)
end Go.VI
