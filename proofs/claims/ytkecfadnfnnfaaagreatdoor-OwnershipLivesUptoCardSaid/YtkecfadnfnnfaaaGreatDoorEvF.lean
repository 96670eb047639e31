/- Freezing: a value whose memory is written no more stands for the same without its blocks. -/
import Derived.Test.YtkecfadnfnnfaaaGreatDoorEvB
import Derived.Below
import Derived.Deep.AppendSrc
import Derived.Deep.Draws
import Derived.Laws.MakeOwn
import Derived.Laws.CopyOwn
import Derived.OrdersHeld
set_option linter.unusedVariables false
set_option linter.unusedSimpArgs false
namespace Go.Ev
abbrev Imm:=Nat→Nat→Option Value
abbrev Ren:=Nat→Option (Nat×Nat×Nat)
def ρ0:Ren:=fun _=>none
def Imm.le (I J:Imm):Prop:=∀ b o v,I b o=some v→J b o=some v
theorem Imm.le_refl (I:Imm):I.le I:=fun _ _ _ h=>h
theorem Imm.le_trans {I J K:Imm}(h:I.le J)(k:J.le K):I.le K:=fun b o v x=>k b o v (h b o v x)
inductive VRel (I:Imm):Ren→AV→Value→Prop where
 | undef (ρ:Ren) (v:Value):VRel I ρ .undef v
 | bool (ρ:Ren) (b:Bool):VRel I ρ (.bool b) (.bool b)
 | int (ρ:Ren) (k:IntKind) (n:Int):VRel I ρ (.int k n) (.int k n)
 | str (ρ:Ren) (s:List UInt8) (bs:ByteArray) (h:bs.data.toList=s):VRel I ρ (.str s) (.string bs)
 | nilp (ρ:Ren):VRel I ρ .nilp (.pointer none)
 | ptr (ρ:Ren) (b i o c z n:Nat) (h:ρ b=some (c,z,n)):VRel I ρ (.ptr b i o) (.pointer (some ⟨c,i * z+o,none⟩))
 | iptr (ρ:Ren) (cs:List AV) (g off:Nat) (vs:Nat→Value) (h:∀ (j:Nat) (x:AV),cs[j]?=some x→I g (off+j)=some (vs j))
   (hv:∀ (j:Nat) (x:AV),cs[j]?=some x→VRel I ρ0 x (vs j)):VRel I ρ (.iptr cs) (.pointer (some ⟨g,off,none⟩))
 | nils (ρ:Ren):VRel I ρ .nils (.slice none 0 0)
 | emp (ρ:Ren) (a:Option Addr):VRel I ρ .emp (.slice a 0 0)
 | lst0 (ρ:Ren) (a:Option Addr) (cap:Nat):VRel I ρ (.lst []) (.slice a 0 cap)
 | lst (ρ:Ren) (es:List (List AV)) (g off cap z:Nat) (vs:Nat→Nat→Value) (hne:es≠[]) (hl:es.length≤cap) (hz:∀ r∈es,r.length=z)
   (h:∀ (i j:Nat) (r:List AV) (x:AV),es[i]?=some r→r[j]?=some x→I g (off+(i * z+j))=some (vs i j))
   (hv:∀ (i j:Nat) (r:List AV) (x:AV),es[i]?=some r→r[j]?=some x→VRel I ρ0 x (vs i j)) (hc:∀ r∈es,∀ x∈r,x.Qax=true):VRel I ρ (.lst es) (.slice (some ⟨g,off,none⟩) es.length cap)
 | sl (ρ:Ren) (b off len:Nat) (a:Addr) (cap c z n:Nat) (h:ρ b=some (c,z,n)) (ha:0<len∨off=0→a=⟨c,off * z,none⟩∧off+cap≤n) (hl:len≤cap):
   VRel I ρ (.sl b off len) (.slice (some a) len cap)
 | sle (ρ:Ren) (b c z n:Nat) (a:Option Addr) (h:ρ b=some (c,z,n)):VRel I ρ (.sl b 0 0) (.slice a 0 0)
 | nilm (ρ:Ren):VRel I ρ .nilm (.map none)
 | map (ρ:Ren) (b c z n:Nat) (h:ρ b=some (c,z,n)):VRel I ρ (.map b) (.map (some c))
 | nilf (ρ:Ren):VRel I ρ .nilf .nilFunc
 | fn (ρ:Ren) (f:FuncId) (caps:List AV) (vs:Array Value) (hl:caps.length=vs.size) (hv:∀ (j:Nat) (x:AV) (v:Value),caps[j]?=some x→vs[j]?=some v→VRel I ρ x v):
   VRel I ρ (.fn f caps) (.func (.func f) #[] vs)
 | nili (ρ:Ren):VRel I ρ .nili .nilIface
 | iface (ρ:Ren) (t:TypeId) (v:AV) (cv:Value) (h:VRel I ρ0 v cv):VRel I ρ (.iface t v) (.iface t cv)
 | agg (ρ:Ren) (cs:List AV) (vs:Array Value) (hl:cs.length=vs.size) (hv:∀ (j:Nat) (x:AV) (v:Value),cs[j]?=some x→vs[j]?=some v→VRel I ρ x v):VRel I ρ (.agg cs) (.agg vs)
 | tup (ρ:Ren) (cs:List AV) (vs:Array Value) (hl:cs.length=vs.size) (hv:∀ (j:Nat) (x:AV) (v:Value),cs[j]?=some x→vs[j]?=some v→VRel I ρ x v):VRel I ρ (.tup cs) (.tuple vs)
theorem VRel.mono {I J:Imm}{ρ ρ':Ren}{v:AV}{cv:Value}(h:VRel I ρ v cv)(hI:I.le J)(hρ:∀ b x,ρ b=some x→ρ' b=some x):VRel J ρ' v cv:=by
 induction h generalizing ρ' with
 | undef=>exact .undef _ _
 | bool=>exact .bool _ _
 | int=>exact .int _ _ _
 | str _ s bs h=>exact .str _ _ _ h
 | nilp=>exact .nilp _
 | ptr _ b i o c z n h=>exact .ptr _ _ _ _ _ _ _ (hρ _ _ h)
 | iptr _ cs g off vs h hv ih=>exact .iptr _ _ _ _ vs (fun j x hx=>hI _ _ _ (h j x hx)) (fun j x hx=>ih j x hx (fun _ _ hb=>hb))
 | nils=>exact .nils _
 | emp=>exact .emp _ _
 | lst0=>exact .lst0 _ _ _
 | lst _ es g off cap z vs hne hl hz h hv hc ih=>
  exact .lst _ _ _ _ _ z vs hne hl hz (fun i j r x hr hx=>hI _ _ _ (h i j r x hr hx)) (fun i j r x hr hx=>ih i j r x hr hx (fun _ _ hb=>hb)) hc
 | sl _ b off len a cap c z n h ha hl=>exact .sl _ _ _ _ _ _ _ _ _ (hρ _ _ h) ha hl
 | sle _ b c z n a h=>exact .sle _ _ _ _ _ _ (hρ _ _ h)
 | nilm=>exact .nilm _
 | map _ b c z n h=>exact .map _ _ _ _ _ (hρ _ _ h)
 | nilf=>exact .nilf _
 | fn _ f caps vs hl hv ih=>exact .fn _ _ _ _ hl (fun j x v hx hv'=>ih j x v hx hv' hρ)
 | nili=>exact .nili _
 | iface _ t v cv h ih=>exact .iface _ _ _ _ (ih (fun _ _ hb=>hb))
 | agg _ cs vs hl hv ih=>exact .agg _ _ _ hl (fun j x v hx hv'=>ih j x v hx hv' hρ)
 | tup _ cs vs hl hv ih=>exact .tup _ _ _ hl (fun j x v hx hv'=>ih j x v hx hv' hρ)
theorem VRel.imm {I J:Imm}{ρ:Ren}{v:AV}{cv:Value}(h:VRel I ρ v cv)(hI:I.le J):VRel J ρ v cv:=h.mono hI (fun _ _ h=>h)
theorem VRel.any {I:Imm}{ρ:Ren}{v:AV}{cv:Value}(h:VRel I ρ0 v cv):VRel I ρ v cv:=h.mono (Imm.le_refl I) (fun _ _ h=>by cases h)
theorem VRel.Qv7 {I:Imm}{ρ:Ren}{v:AV}{cv:Value}(h:VRel I ρ v cv)(hc:v.Qax=true):cv.oneCell'=true:=by
 cases h<;>first |rfl |(simp [AV.Qax] at hc)
theorem VRel.cells {I:Imm}{ρ:Ren}{v:AV}{cv:Value}(h:VRel I ρ v cv)(hc:v.cells.all AV.Qax=true):
  v.cells.length=cv.cells.size∧(∀ (j:Nat) (x:AV) (u:Value),v.cells[j]?=some x→cv.cells[j]?=some u→VRel I ρ x u)∧∀ u∈cv.cells,u.oneCell'=true:=by
 have key:∀ (cs:List AV) (vs:Array Value),cs.length=vs.size→(∀ (j:Nat) (x:AV) (v:Value),cs[j]?=some x→vs[j]?=some v→VRel I ρ x v)→cs.all AV.Qax=true→∀ u∈vs,u.oneCell'=true:=by
  intro cs vs hl hv hc u hu
  obtain ⟨j,hj,rfl⟩:=Array.mem_iff_getElem.1 hu
  have hj':j<cs.length:=by omega
  exact (hv j cs[j] vs[j] (List.getElem?_eq_getElem hj') (Array.getElem?_eq_getElem hj)).Qv7 (List.all_eq_true.1 hc _ (List.getElem_mem hj'))
 have single:∀ (x:AV) (u:Value),x.cells=[x]→u.cells=#[u]→VRel I ρ x u→x.cells.all AV.Qax=true→
   x.cells.length=u.cells.size∧(∀ (j:Nat) (y:AV) (w:Value),x.cells[j]?=some y→u.cells[j]?=some w→VRel I ρ y w)∧∀ w∈u.cells,w.oneCell'=true:=by
  intro x u hx hu hr hc
  rw [hx] at hc ⊢
  rw [hu]
  refine ⟨rfl,?_,?_⟩
  ·intro j y w hy hw
   cases j with
   | zero=>simp at hy hw; subst hy; subst hw; exact hr
   | succ j=>simp at hy
  ·intro w hw
   simp at hw
   subst hw
   exact hr.Qv7 (by simpa using hc)
 cases h with
 | agg _ cs vs hl hv=>exact ⟨hl,hv,key cs vs hl hv hc⟩
 | undef=>simp [AV.cells,AV.Qax] at hc
 | tup=>simp [AV.cells,AV.Qax] at hc
 | _=>exact single _ _ rfl rfl (by constructor<;>assumption) hc
def BRel (I:Imm)(ρ:Ren)(w:World)(c z n:Nat):Blk→Prop
 | .rows z' p es=>z'=z∧es.length≤n∧(∀ r∈es,r.length=z∧∀ x∈r,x.Qax=true)∧
   (∀ o,o<n * z→(w.cell? ⟨c,o,none⟩).isSome=true∧w.frozen? ⟨c,o,none⟩=false)∧
   ∀ (i j:Nat) (r:List AV) (x:AV) (v:Value),es[i]?=some r→r[j]?=some x→w.cell? ⟨c,i * z+j,none⟩=some v→VRel I (bif p then ρ0 else ρ) x v
 | .ro z' es=>z'=z∧es.length≤n∧(∀ r∈es,r.length=z∧∀ x∈r,x.Qax=true)∧
   ∀ (i j:Nat) (r:List AV) (x:AV),es[i]?=some r→r[j]?=some x→∃ v,I c (i * z+j)=some v∧VRel I ρ0 x v
 | .map es=>0<n∧∃ ents clock,w.heap[c]?=some (.map ents clock)∧es.length=ents.size∧
   ∀ (j:Nat) (x:AV×AV) (e:MapEntry),es[j]?=some x→ents[j]?=some e→VRel I ρ0 x.1 e.key∧VRel I ρ0 x.2 e.val
 | .iter _ _=>True
 | .dead=>True
structure Qft (I:Imm)(w:World):Prop where
 at_:∀ b o v,I b o=some v→w.cell? ⟨b,o,none⟩=some v
def QoH (ρ:Ren)(H:Heap)(c:Nat):Prop:=∃ b k x,H[b]?=some k∧k.live=true∧ρ b=some x∧x.1=c∧0<x.2.2
def QpP (ρ:Ren)(H:Heap)(c:Nat):Prop:=∃ b k x,H[b]?=some k∧k.Qfn=true∧ρ b=some x∧x.1=c∧0<x.2.2
theorem Blk.QaE {k:Blk}(h:k.live=true):k.Qfn=true:=by cases k<;>simp_all [Blk.live,Blk.Qfn]
theorem QoH.Qfn {ρ:Ren}{H:Heap}{c:Nat}(h:QoH ρ H c):QpP ρ H c:=let ⟨b,k,x,h1,h2,h3⟩:=h; ⟨b,k,x,h1,Blk.QaE h2,h3⟩
structure Sim (I:Imm)(ρ:Ren)(H:Heap)(w:World):Prop where
 imm:Qft I w
 tot:∀ b,b<H.length→∃ x,ρ b=some x
 dom:∀ b x,ρ b=some x→b<H.length∧(0<x.2.2→x.1<w.heap.size)
 blk:∀ b k c z n,H[b]?=some k→ρ b=some (c,z,n)→BRel I ρ w c z n k
 inj:∀ b b' k k' x x',H[b]?=some k→H[b']?=some k'→k.Qfn=true→k'.Qfn=true→ρ b=some x→ρ b'=some x'→0<x.2.2→0<x'.2.2→x.1=x'.1→b=b'
 sep:∀ b k x,H[b]?=some k→k.live=true→ρ b=some x→0<x.2.2→∀ o,I x.1 o=none
def Srt (fr:Fr):Prop:=fr.Pairwise fun p q=>p.1<q.1
structure QcO (I:Imm)(ρ:Ren)(fr:Fr)(tmps:Array Value)(n:Nat):Prop where
 size:tmps.size=n
 srt:Srt fr
 at_:∀ t,VRel I ρ (fr.get t) (tmps.getD t undef)
 all:∀ p∈fr,∃ cv,VRel I ρ p.2 cv
structure Ext (m:Nat)(I:Imm)(ρ:Ren)(H:Heap)(w:World)(I':Imm)(ρ':Ren)(H':Heap)(w':World):Prop where
 imm:I.le I'
 Qr9:∀ c o v,I' c o=some v→I c o=some v∨QoH ρ H c∨w.heap.size≤c
 ren:∀ b,b<m→ρ' b=ρ b
 Qv8:∀ b k,b<m→H'[b]?=some k→k.Qfn=true→∃ k0,H[b]?=some k0∧k0.Qfn=true
 newS:∀ c,QpP ρ' H' c→QpP ρ H c∨w.heap.size≤c
 newL:∀ c,QoH ρ' H' c→QoH ρ H c∨w.heap.size≤c
 os:w'.os=w.os
 tape:w'.tape=w.tape
 output:w'.output=w.output
 size:w.heap.size≤w'.heap.size
 kept:∀ c,c<w.heap.size→¬ QoH ρ H c→w'.heap[c]?=w.heap[c]?
theorem Ext.refl (m:Nat)(I:Imm)(ρ:Ren)(H:Heap)(w:World):Ext m I ρ H w I ρ H w:=
 ⟨Imm.le_refl I,fun _ _ _ h=>.inl h,fun _ _=>rfl,fun b k _ h hs=>⟨k,h,hs⟩,fun _ h=>.inl h,fun _ h=>.inl h,rfl,rfl,rfl,Nat.le_refl _,fun _ _ _=>rfl⟩
theorem Ext.trans {m m1:Nat}{I I1 I2:Imm}{ρ ρ1 ρ2:Ren}{H H1 H2:Heap}{w w1 w2:World}(h:Ext m I ρ H w I1 ρ1 H1 w1)(k:Ext m1 I1 ρ1 H1 w1 I2 ρ2 H2 w2)(hm:m≤m1):
  Ext m I ρ H w I2 ρ2 H2 w2 where
 imm:=Imm.le_trans h.imm k.imm
 Qr9 c o v hv:=by
  have hs:=h.size
  rcases k.Qr9 c o v hv with h1 |h1 |h1
  ·exact h.Qr9 c o v h1
  ·rcases h.newL c h1 with h2 |h2
   ·exact .inr (.inl h2)
   ·exact .inr (.inr h2)
  ·exact .inr (.inr (by omega))
 ren b hb:=(k.ren b (by omega)).trans (h.ren b hb)
 Qv8 b kk hb hk hs:=by
  obtain ⟨k1,h1,s1⟩:=k.Qv8 b kk (by omega) hk hs
  exact h.Qv8 b k1 hb h1 s1
 newS c hc:=by
  have hs:=h.size
  rcases k.newS c hc with h1 |h1
  ·exact h.newS c h1
  ·exact .inr (by omega)
 newL c hc:=by
  have hs:=h.size
  rcases k.newL c hc with h1 |h1
  ·exact h.newL c h1
  ·exact .inr (by omega)
 os:=k.os.trans h.os
 tape:=k.tape.trans h.tape
 output:=k.output.trans h.output
 size:=Nat.le_trans h.size k.size
 kept c hc hn:=by
  rw [k.kept c (by have:=h.size; omega) (fun hl=>?_),h.kept c hc hn]
  rcases h.newL c hl with h1 |h1
  ·exact hn h1
  ·omega
theorem Ext.mono {m m':Nat}{I I':Imm}{ρ ρ':Ren}{H H':Heap}{w w':World}(h:Ext m I ρ H w I' ρ' H' w')(hm:m'≤m):Ext m' I ρ H w I' ρ' H' w':=
 { h with ren:=fun b hb=>h.ren b (by omega),Qv8:=fun b k hb=>h.Qv8 b k (by omega) }
theorem Ext.vrel {I I':Imm}{ρ ρ':Ren}{H H':Heap}{w w':World}(h:Ext H.length I ρ H w I' ρ' H' w')(hs:Sim I ρ H w){v:AV}{cv:Value}(hv:VRel I ρ v cv):VRel I' ρ' v cv:=
 hv.mono h.imm (fun b x hb=>by rw [h.ren b (hs.dom b x hb).1]; exact hb)
theorem Ext.frel {I I':Imm}{ρ ρ':Ren}{H H':Heap}{w w':World}(h:Ext H.length I ρ H w I' ρ' H' w')(hs:Sim I ρ H w){fr:Fr}{tmps:Array Value}{n:Nat}(hv:QcO I ρ fr tmps n):
  QcO I' ρ' fr tmps n:=⟨hv.size,hv.srt,fun t=>h.vrel hs (hv.at_ t),fun p hp=>let ⟨cv,hcv⟩:=hv.all p hp; ⟨cv,h.vrel hs hcv⟩⟩
theorem Fr.Qz4 (fr:Fr)(d:Nat)(v:AV)(t:Nat):(fr.set d v).get t=if t=d then v else fr.get t:=by
 induction fr with
 | nil=>
  rw [Fr.set_nil,Fr.QbO]
  cases h:Nat.beq d t with
  | true=>have:=Nat.eq_of_beq_eq_true h; simp [ifB,this]
  | false=>have:t≠d:=fun e=>by subst e; simp [Nat.beq_refl] at h
           simp [ifB,this,Fr.get_nil]
 | cons p r ih=>
  rw [Fr.QeT]
  cases h1:Nat.beq p.1 d with
  | true=>
   have e:=Nat.eq_of_beq_eq_true h1
   simp only [ifB]
   rw [Fr.QbO,Fr.QbO]
   cases h:Nat.beq d t with
   | true=>have:=Nat.eq_of_beq_eq_true h; simp [ifB,this]
   | false=>
    have:t≠d:=fun e=>by subst e; simp [Nat.beq_refl] at h
    simp [ifB,this,e,h]
  | false=>
   have hne:p.1≠d:=fun e=>by rw [e] at h1; simp [Nat.beq_refl] at h1
   cases h2:Nat.blt d p.1 with
   | true=>
    simp only [ifB]
    rw [Fr.QbO]
    cases h:Nat.beq d t with
    | true=>have:=Nat.eq_of_beq_eq_true h; simp [ifB,this]
    | false=>
     have:t≠d:=fun e=>by subst e; simp [Nat.beq_refl] at h
     simp [ifB,this]
   | false=>
    simp only [ifB]
    rw [Fr.QbO,Fr.QbO]
    cases h:Nat.beq p.1 t with
    | true=>
     have:=Nat.eq_of_beq_eq_true h
     have:t≠d:=fun e=>hne (this.trans e)
     simp [ifB,this]
    | false=>simpa [ifB] using ih
theorem Fr.mem_set {fr:Fr}{d:Nat}{v:AV}{p:Nat×AV}(h:p∈fr.set d v):p=(d,v)∨p∈fr:=by
 induction fr with
 | nil=>rw [Fr.set_nil] at h; exact .inl (by simpa using h)
 | cons q r ih=>
  rw [Fr.QeT] at h
  cases h1:Nat.beq q.1 d with
  | true=>
   simp only [h1,ifB,List.mem_cons] at h
   rcases h with h |h
   ·exact .inl h
   ·exact .inr (List.mem_cons_of_mem _ h)
  | false=>
   cases h2:Nat.blt d q.1 with
   | true=>
    simp only [h1,h2,ifB,List.mem_cons] at h
    rcases h with h |h |h
    ·exact .inl h
    ·exact .inr (by simp [h])
    ·exact .inr (List.mem_cons_of_mem _ h)
   | false=>
    simp only [h1,h2,ifB,List.mem_cons] at h
    rcases h with h |h
    ·exact .inr (by simp [h])
    ·rcases ih h with h |h
     ·exact .inl h
     ·exact .inr (List.mem_cons_of_mem _ h)
theorem Srt.set {fr:Fr}(h:Srt fr)(d:Nat)(v:AV):Srt (fr.set d v):=by
 induction fr with
 | nil=>rw [Fr.set_nil]; exact List.pairwise_singleton _ _
 | cons p r ih=>
  have hp:=List.pairwise_cons.1 h
  rw [Fr.QeT]
  cases h1:Nat.beq p.1 d with
  | true=>
   have e:=Nat.eq_of_beq_eq_true h1
   simp only [ifB]
   refine List.pairwise_cons.2 ⟨fun q hq=>?_,hp.2⟩
   have:=hp.1 q hq
   simp only; omega
  | false=>
   have hne:p.1≠d:=fun e=>by rw [e] at h1; simp [Nat.beq_refl] at h1
   cases h2:Nat.blt d p.1 with
   | true=>
    have hlt:d<p.1:=(show d+1≤p.1 by simpa [Nat.blt] using h2)
    simp only [ifB]
    refine List.pairwise_cons.2 ⟨fun q hq=>?_,h⟩
    rcases List.mem_cons.1 hq with rfl |hq
    ·exact hlt
    ·have:=hp.1 q hq
     simp only; omega
   | false=>
    have hge:¬ d<p.1:=fun hlt=>by
     have:Nat.blt d p.1=true:=(by simp [Nat.blt]; omega)
     rw [this] at h2; cases h2
    simp only [ifB]
    refine List.pairwise_cons.2 ⟨fun q hq=>?_,ih hp.2⟩
    rcases Fr.mem_set hq with rfl |hq
    ·simp only; omega
    ·exact hp.1 q hq
theorem Srt.get {fr:Fr}(h:Srt fr){p:Nat×AV}(hp:p∈fr):fr.get p.1=p.2:=by
 induction fr with
 | nil=>simp at hp
 | cons q r ih=>
  have hq:=List.pairwise_cons.1 h
  rw [Fr.QbO]
  rcases List.mem_cons.1 hp with rfl |hp
  ·simp [Nat.beq_refl,ifB]
  ·have hlt:=hq.1 p hp
   have hne:Nat.beq q.1 p.1=false:=by
    cases hb:Nat.beq q.1 p.1 with
    | false=>rfl
    | true=>have:=Nat.eq_of_beq_eq_true hb; omega
   simp only [hne,ifB]
   exact ih hq.2 hp
theorem Srt.put {fr:Fr}(h:Srt fr)(dst:Option Tmp)(v:AV):Srt (fr.put dst v):=by
 cases dst with
 | none=>exact h
 | some d=>exact h.set d v
theorem QcO.Quy {I:Imm}{ρ:Ren}{fr:Fr}{tmps:Array Value}{n:Nat}(hs:tmps.size=n)(h:Srt fr)(ha:∀ t,VRel I ρ (fr.get t) (tmps.getD t undef)):QcO I ρ fr tmps n:=
 ⟨hs,h,ha,fun p hp=>⟨_,by have:=ha p.1; rw [h.get hp] at this; exact this⟩⟩
theorem QcO.put {I:Imm}{ρ:Ren}{fr:Fr}{tmps:Array Value}{n:Nat}(h:QcO I ρ fr tmps n)(dst:Option Tmp){v:AV}{cv:Value}(hv:VRel I ρ v cv)(hd:QrD n dst=true)
  (ds:List Deferred):QcO I ρ (fr.put dst v) ((⟨tmps,ds⟩:Act).put dst cv).tmps n:=by
 cases dst with
 | none=>exact h
 | some d=>
  have hlt:d<n:=(show d+1≤n by simpa [QrD,Nat.blt] using hd)
  refine ⟨by simpa [Act.put] using h.size,h.srt.set d v,fun t=>?_,fun p hp=>?_⟩
  case refine_2=>
   rcases Fr.mem_set hp with rfl |hp
   ·exact ⟨cv,hv⟩
   ·exact h.all p hp
  simp only [Fr.put,Act.put,Fr.Qz4]
  by_cases e:t=d
  ·subst e
   have:t<tmps.size:=by rw [h.size]; exact hlt
   simpa [Array.getElem?_setIfInBounds,this] using hv
  ·have:=h.at_ t
   simpa [e,Array.getElem?_setIfInBounds_ne (Ne.symm e)] using this
theorem QaL {I:Imm}{ρ:Ren}{fr:Fr}{a:Act}{n:Nat}(h:QcO I ρ fr a.tmps n)(x:Operand):VRel I ρ (opv fr x) (a.eval x):=by
 cases x with
 | tmp t=>exact h.at_ t
 | const v=>
  simp only [opv,Act.eval]
  cases v with
  | bool=>exact .bool _ _
  | int=>exact .int _ _ _
  | string s=>exact .str _ _ _ rfl
  | pointer a=>cases a with
   | none=>exact .nilp _
   | some a=>exact .undef _ _
  | slice a l c=>
   cases a with
   | some a=>exact .undef _ _
   | none=>
    cases l with
    | succ l=>exact .undef _ _
    | zero=>cases c with
     | succ c=>exact .undef _ _
     | zero=>exact .nils _
  | map r=>cases r with
   | none=>exact .nilm _
   | some r=>exact .undef _ _
  | nilFunc=>exact .nilf _
  | nilIface=>exact .nili _
  | _=>exact .undef _ _
 | global g=>exact .undef _ _
 | func f=>exact .fn _ _ _ _ rfl (fun j x v hx=>by simp at hx)
end Go.Ev
namespace Go.Ev
theorem cell_of_heap {w w':World}{c:Nat}(h:w'.heap[c]?=w.heap[c]?)(o:Nat):w'.cell? ⟨c,o,none⟩=w.cell? ⟨c,o,none⟩:=by simp [World.cell?,h]
theorem frozen_of_heap {w w':World}{c:Nat}(h:w'.heap[c]?=w.heap[c]?)(o:Nat):w'.frozen? ⟨c,o,none⟩=w.frozen? ⟨c,o,none⟩:=by simp [World.frozen?,h]
theorem QpQ {w:World}{c o:Nat}{v:Value}(h:w.cell? ⟨c,o,none⟩=some v):c<w.heap.size:=by
 simp only [World.cell?] at h
 by_cases hc:c<w.heap.size
 ·exact hc
 ·simp [Array.getElem?_eq_none (Nat.le_of_not_lt hc)] at h
theorem Quz {α:Type}{es:List α}(h:es.length≤0):es=[]:=List.eq_nil_of_length_eq_zero (by omega)
theorem BRel.vain {I J:Imm}{ρ ρ':Ren}{w w':World}{c c' z:Nat}{k:Blk}(h:BRel I ρ w c z 0 k):BRel J ρ' w' c' z 0 k:=by
 cases k with
 | rows z' p es=>
  obtain ⟨h1,h2,h3,h4,h5⟩:=h
  have:=Quz h2
  subst this
  exact ⟨h1,h2,h3,fun o ho=>by omega,fun i j r x v hr=>by simp at hr⟩
 | ro z' es=>
  obtain ⟨h1,h2,h3,h4⟩:=h
  have:=Quz h2
  subst this
  exact ⟨h1,h2,h3,fun i j r x hr=>by simp at hr⟩
 | map es=>exact absurd h.1 (by omega)
 | iter=>trivial
 | dead=>trivial
theorem BRel.mono {I J:Imm}{ρ ρ':Ren}{w w':World}{c z n:Nat}{k:Blk}(h:BRel I ρ w c z n k)(hI:I.le J)(hρ:∀ b x,ρ b=some x→ρ' b=some x)(hw0:0<n→w'.heap[c]?=w.heap[c]?):
  BRel J ρ' w' c z n k:=by
 cases n with
 | zero=>exact h.vain
 | succ n=>
 have hw:=hw0 (by omega)
 cases k with
 | rows z' p es=>
  obtain ⟨h1,h2,h3,h4,h5⟩:=h
  refine ⟨h1,h2,h3,fun o ho=>by rw [cell_of_heap hw,frozen_of_heap hw]; exact h4 o ho,fun i j r x v hr hx hv=>?_⟩
  rw [cell_of_heap hw] at hv
  have:=h5 i j r x v hr hx hv
  cases p with
  | true=>exact this.imm hI
  | false=>exact this.mono hI hρ
 | ro z' es=>
  obtain ⟨h1,h2,h3,h4⟩:=h
  exact ⟨h1,h2,h3,fun i j r x hr hx=>let ⟨v,hv,hrel⟩:=h4 i j r x hr hx; ⟨v,hI _ _ _ hv,hrel.imm hI⟩⟩
 | map es=>
  obtain ⟨h0,ents,clock,h1,h2,h3⟩:=h
  exact ⟨h0,ents,clock,by rw [hw]; exact h1,h2,fun j x e hx he=>⟨(h3 j x e hx he).1.imm hI,(h3 j x e hx he).2.imm hI⟩⟩
 | iter=>trivial
 | dead=>trivial
theorem Qft.keep {I:Imm}{w w':World}(h:Qft I w)(hk:∀ c o v,I c o=some v→w'.heap[c]?=w.heap[c]?):Qft I w':=
 ⟨fun b o v hv=>by rw [cell_of_heap (hk b o v hv)]; exact h.at_ b o v hv⟩
structure Qgt (w w':World)(o:Obj):Prop where
 heap:w'.heap=w.heap.push o
 os:w'.os=w.os
 tape:w'.tape=w.tape
 output:w'.output=w.output
theorem Qgt.size {w w':World}{o:Obj}(h:Qgt w w' o):w'.heap.size=w.heap.size+1:=by rw [h.heap]; simp
theorem Qgt.old {w w':World}{o:Obj}(h:Qgt w w' o){c:Nat}(hc:c<w.heap.size):w'.heap[c]?=w.heap[c]?:=by rw [h.heap,Array.getElem?_push]; simp [Nat.ne_of_lt hc]
theorem Qgt.at_ {w w':World}{o:Obj}(h:Qgt w w' o):w'.heap[w.heap.size]?=some o:=by rw [h.heap]; simp
theorem Qgt.alloc (w:World)(o:Obj):Qgt w (w.alloc o) o:=⟨rfl,rfl,rfl,rfl⟩
theorem Qgt.QnF (w:World)(o:Obj):Qgt w (w.drew.alloc o) o:=⟨rfl,rfl,rfl,rfl⟩
def Ren.put (ρ:Ren)(b:Nat)(x:Nat×Nat×Nat):Ren:=fun i=>if i=b then some x else ρ i
theorem Ren.QaV (ρ:Ren)(b:Nat)(x:Nat×Nat×Nat):ρ.put b x b=some x:=by simp [Ren.put]
theorem Ren.QcP (ρ:Ren){b i:Nat}(x:Nat×Nat×Nat)(h:i≠b):ρ.put b x i=ρ i:=by simp [Ren.put,h]
section
variable {I:Imm} {ρ:Ren} {H:Heap} {w w':World}
theorem Sim.Qpi (hs:Sim I ρ H w)(x:Nat×Nat×Nat):∀ b y,ρ b=some y→ρ.put H.length x b=some y:=fun b y hb=>by
 rw [Ren.QcP _ _ (by have:=(hs.dom b y hb).1; omega)]; exact hb
theorem Sim.alloc (hs:Sim I ρ H w){o:Obj}(hw:Qgt w w' o)(k:Blk)(z n:Nat)(hb:BRel I (ρ.put H.length (w.heap.size,z,n)) w' w.heap.size z n k):
  Sim I (ρ.put H.length (w.heap.size,z,n)) (H++[k]) w'∧Ext H.length I ρ H w I (ρ.put H.length (w.heap.size,z,n)) (H++[k]) w':=by
 have hmono:=hs.Qpi (w.heap.size,z,n)
 have hold:∀ b k',(H++[k])[b]?=some k'→b<H.length→H[b]?=some k':=fun b k' h hb=>by rwa [List.getElem?_append_left hb] at h
 have hnew:∀ b k',(H++[k])[b]?=some k'→¬ b<H.length→b=H.length∧k'=k:=fun b k' h hb=>by
  rw [List.getElem?_append_right (by omega)] at h
  have:b - H.length=0:=by
   rcases Nat.eq_zero_or_pos (b - H.length) with e |e
   ·exact e
   ·rw [List.getElem?_eq_none (by simp; omega)] at h; cases h
  rw [this] at h
  simp at h
  exact ⟨by omega,h.symm⟩
 have himm:Qft I w':=hs.imm.keep fun c o v hv=>hw.old (QpQ (hs.imm.at_ c o v hv))
 have hfresh:∀ o,I w.heap.size o=none:=fun o=>by
  cases h:I w.heap.size o with
  | none=>rfl
  | some v=>have:=QpQ (hs.imm.at_ _ _ _ h); omega
 constructor
 ·refine ⟨himm,fun b hb=>?_,fun b x hx=>?_,fun b k' c z' n' hk hx=>?_,fun b b' k1 k2 x x' hk1 hk2 l1 l2 hx hx' q1 q2 e=>?_,fun b k' x hk hl hx q o=>?_⟩
  ·by_cases e:b=H.length
   ·subst e; exact ⟨_,Ren.QaV _ _ _⟩
   ·rw [Ren.QcP _ _ e]; exact hs.tot b (by simp at hb; omega)
  ·by_cases e:b=H.length
   ·subst e; rw [Ren.QaV] at hx; cases hx; exact ⟨by simp,fun _=>by rw [hw.size]; simp⟩
   ·rw [Ren.QcP _ _ e] at hx; have:=hs.dom b x hx; exact ⟨by simp; omega,fun q=>by have:=this.2 q; rw [hw.size]; omega⟩
  ·by_cases hlt:b<H.length
   ·rw [Ren.QcP _ _ (by omega)] at hx
    exact (hs.blk b k' c z' n' (hold b k' hk hlt) hx).mono (Imm.le_refl I) hmono (fun q=>hw.old ((hs.dom b _ hx).2 q))
   ·obtain ⟨rfl,rfl⟩:=hnew b k' hk hlt
    rw [Ren.QaV] at hx; cases hx; exact hb
  ·by_cases h1:b<H.length<;>by_cases h2:b'<H.length
   ·rw [Ren.QcP _ _ (by omega)] at hx hx'
    exact hs.inj b b' k1 k2 x x' (hold _ _ hk1 h1) (hold _ _ hk2 h2) l1 l2 hx hx' q1 q2 e
   ·obtain ⟨rfl,rfl⟩:=hnew _ _ hk2 h2
    rw [Ren.QaV] at hx'; cases hx'; rw [Ren.QcP _ _ (by omega)] at hx
    have:=(hs.dom b x hx).2 q1; simp at e; omega
   ·obtain ⟨rfl,rfl⟩:=hnew _ _ hk1 h1
    rw [Ren.QaV] at hx; cases hx; rw [Ren.QcP _ _ (by omega)] at hx'
    have:=(hs.dom b' x' hx').2 q2; simp at e; omega
   ·rw [(hnew _ _ hk1 h1).1,(hnew _ _ hk2 h2).1]
  ·by_cases h1:b<H.length
   ·rw [Ren.QcP _ _ (by omega)] at hx; exact hs.sep b k' x (hold _ _ hk h1) hl hx q o
   ·obtain ⟨rfl,rfl⟩:=hnew _ _ hk h1
    rw [Ren.QaV] at hx; cases hx; exact hfresh o
 ·refine ⟨Imm.le_refl I,fun _ _ _ h=>.inl h,fun b hb=>Ren.QcP _ _ (by omega),fun b k' hb hk hl=>⟨k',hold _ _ hk hb,hl⟩,?_,?_,hw.os,hw.tape,hw.output,by rw [hw.size]; omega,fun c hc _=>hw.old hc⟩
  all_goals
   rintro c ⟨b,k',x,hk,hl,hx,e⟩
   by_cases h1:b<H.length
   ·rw [Ren.QcP _ _ (by omega)] at hx
    exact .inl ⟨b,k',x,hold _ _ hk h1,hl,hx,e⟩
   ·obtain ⟨rfl,rfl⟩:=hnew _ _ hk h1
    rw [Ren.QaV] at hx; cases hx; have e:=e.1; simp at e; exact .inr (by omega)
structure Upd (w w':World)(c:Nat):Prop where
 size:w'.heap.size=w.heap.size
 old:∀ d,d≠c→w'.heap[d]?=w.heap[d]?
 os:w'.os=w.os
 tape:w'.tape=w.tape
 output:w'.output=w.output
theorem Upd.refl (w:World)(c:Nat):Upd w w c:=⟨rfl,fun _ _=>rfl,rfl,rfl,rfl⟩
theorem Upd.setCells (b:Nat):∀ (vs:List Value) (o:Nat) (w:World),Upd w (w.setCells b o vs) b
 | [],_,w=>Upd.refl w b
 | v::r,o,w=>by
  have h:=Upd.setCells b r (o+1) (w.setCell ⟨b,o,none⟩ v)
  refine ⟨h.size.trans (by simp [World.setCell]),fun d hd=>(h.old d hd).trans ?_,h.os,h.tape,h.output⟩
  simp [World.setCell,Array.getElem?_modify,Ne.symm hd]
theorem Sim.setB (hs:Sim I ρ H w){b c z n:Nat}{k k':Blk}(hk:H[b]?=some k)(hl:k.live=true)(hρ:ρ b=some (c,z,n))(hn:0<n)(hu:Upd w w' c)
  (hk':k'.live=true∨k'=.dead) (hb:BRel I ρ w' c z n k'):Sim I ρ (H.set b k') w'∧Ext H.length I ρ H w I ρ (H.set b k') w':=by
 have hlen:b<H.length:=(List.getElem?_eq_some_iff.1 hk).1
 have hset:∀ i x,(H.set b k')[i]?=some x→(i=b∧x=k')∨(i≠b∧H[i]?=some x):=fun i x h=>by
  rw [List.getElem?_set] at h
  split at h
  ·rename_i e; subst e; simp [hlen] at h; exact .inl ⟨rfl,h.symm⟩
  ·rename_i e; exact .inr ⟨fun e'=>e e'.symm,h⟩
 have hcI:∀ o,I c o=none:=hs.sep b k _ hk hl hρ hn
 have himm:Qft I w':=hs.imm.keep fun d o v hv=>hu.old d fun e=>by rw [e,hcI] at hv; cases hv
 have hsol:∀ {x:Blk},(x.live=true∨x=.dead)→x.Qfn=true→x.live=true:=fun h hx=>by
  rcases h with h |rfl
  ·exact h
  ·simp [Blk.Qfn] at hx
 constructor
 ·refine ⟨himm,fun i hi=>hs.tot i (by simpa using hi),fun i x hx=>?_,fun i x d z' n' hx hr=>?_,fun i i' x x' y y' hx hx' l l' hr hr' q1 q2 e=>?_,fun i x y hx lx hr q o=>?_⟩
  ·have:=hs.dom i x hx; exact ⟨by simpa using this.1,by rw [hu.size]; exact this.2⟩
  ·rcases hset i x hx with ⟨rfl,rfl⟩ |⟨hne,hx'⟩
   ·rw [hρ] at hr; cases hr; exact hb
   ·by_cases hsx:x.Qfn=true
    ·refine (hs.blk i x d z' n' hx' hr).mono (Imm.le_refl I) (fun _ _ h=>h) (fun q=>hu.old d fun e=>?_)
     subst e
     exact hne (hs.inj i b x k _ _ hx' hk hsx (Blk.QaE hl) hr hρ q hn rfl)
    ·cases x<;>simp [Blk.Qfn] at hsx<;>trivial
  ·rcases hset i x hx with ⟨rfl,rfl⟩ |⟨hne,hx1⟩<;>rcases hset i' x' hx' with ⟨rfl,rfl⟩ |⟨hne',hx1'⟩
   ·rfl
   ·exact hs.inj _ _ k x' _ _ hk hx1' (Blk.QaE hl) l' hr hr' q1 q2 e
   ·exact hs.inj _ _ x k _ _ hx1 hk l (Blk.QaE hl) hr hr' q1 q2 e
   ·exact hs.inj _ _ x x' _ _ hx1 hx1' l l' hr hr' q1 q2 e
  ·rcases hset i x hx with ⟨rfl,rfl⟩ |⟨hne,hx1⟩
   ·exact hs.sep _ k y hk hl hr q o
   ·exact hs.sep _ x y hx1 lx hr q o
 ·refine ⟨Imm.le_refl I,fun _ _ _ h=>.inl h,fun _ _=>rfl,fun i x hi hx hsx=>?_,?_,?_,hu.os,hu.tape,hu.output,by rw [hu.size]; omega,fun d hd hno=>hu.old d fun e=>hno (e▸⟨b,k,_,hk,hl,hρ,rfl,hn⟩)⟩
  ·rcases hset i x hx with ⟨rfl,rfl⟩ |⟨_,hx1⟩
   ·exact ⟨k,hk,Blk.QaE hl⟩
   ·exact ⟨x,hx1,hsx⟩
  ·rintro d ⟨i,x,y,hx,hsx,hy,e⟩
   rcases hset i x hx with ⟨rfl,rfl⟩ |⟨_,hx1⟩
   ·exact .inl ⟨_,k,y,hk,Blk.QaE hl,hy,e⟩
   ·exact .inl ⟨i,x,y,hx1,hsx,hy,e⟩
  ·rintro d ⟨i,x,y,hx,hsx,hy,e⟩
   rcases hset i x hx with ⟨rfl,rfl⟩ |⟨_,hx1⟩
   ·exact .inl ⟨_,k,y,hk,hl,hy,e⟩
   ·exact .inl ⟨i,x,y,hx1,hsx,hy,e⟩
theorem Sim.kill (hs:Sim I ρ H w)(b:Nat):Sim I ρ (H.set b .dead) w∧Ext H.length I ρ H w I ρ (H.set b .dead) w:=by
 have hset:∀ (i:Nat) (x:Blk),(H.set b Blk.dead)[i]?=some x→x=Blk.dead∨H[i]?=some x:=fun i x h=>by
  rw [List.getElem?_set] at h
  split at h
  ·split at h
   ·exact .inl (Option.some.inj h).symm
   ·cases h
  ·exact .inr h
 have hsol:∀ (i:Nat) (x:Blk),(H.set b Blk.dead)[i]?=some x→x.Qfn=true→H[i]?=some x:=fun i x h hx=>by
  rcases hset i x h with rfl |h
  ·simp [Blk.Qfn] at hx
  ·exact h
 constructor
 ·refine ⟨hs.imm,fun i hi=>hs.tot i (by simpa using hi),fun i x hx=>?_,fun i x d z' n' hx hr=>?_,fun i i' x x' y y' hx hx' l l' hr hr' q1 q2 e=>?_,fun i x y hx lx hr q o=>?_⟩
  ·have:=hs.dom i x hx; exact ⟨by simpa using this.1,this.2⟩
  ·rcases hset i x hx with rfl |h
   ·trivial
   ·exact hs.blk i x d z' n' h hr
  ·exact hs.inj i i' x x' y y' (hsol _ _ hx l) (hsol _ _ hx' l') l l' hr hr' q1 q2 e
  ·exact hs.sep i x y (hsol _ _ hx (Blk.QaE lx)) lx hr q o
 ·refine ⟨Imm.le_refl I,fun _ _ _ h=>.inl h,fun _ _=>rfl,fun i x hi hx hsx=>⟨x,hsol _ _ hx hsx,hsx⟩,?_,?_,rfl,rfl,rfl,Nat.le_refl _,fun _ _ _=>rfl⟩
  ·rintro d ⟨i,x,y,hx,hsx,hy,e⟩
   exact .inl ⟨i,x,y,hsol _ _ hx hsx,hsx,hy,e⟩
  ·rintro d ⟨i,x,y,hx,hsx,hy,e⟩
   exact .inl ⟨i,x,y,hsol _ _ hx (Blk.QaE hsx),hsx,hy,e⟩
theorem Sim.grow (hs:Sim I ρ H w){b c z n:Nat}{k k':Blk}(hk:H[b]?=some k)(hl:k.live=true)(hρ:ρ b=some (c,z,n))(hn:0<n)(hu:Upd w w' c)
  (hk':k'.live=true) (hb:BRel I (ρ.put H.length (c,z,n)) w' c z n k'):
  Sim I (ρ.put H.length (c,z,n)) (H.set b .dead++[k']) w'∧Ext H.length I ρ H w I (ρ.put H.length (c,z,n)) (H.set b .dead++[k']) w':=by
 have hlen:b<H.length:=(List.getElem?_eq_some_iff.1 hk).1
 obtain ⟨s1,e1⟩:=hs.setB hk hl hρ hn hu (.inr rfl) (show BRel I ρ w' c z n .dead from trivial)
 have hmono:∀ i y,ρ i=some y→ρ.put H.length (c,z,n) i=some y:=hs.Qpi (c,z,n)
 have hold:∀ i x,(H.set b .dead++[k'])[i]?=some x→i<H.length→(H.set b .dead)[i]?=some x:=fun i x h hi=>by rwa [List.getElem?_append_left (by simpa using hi)] at h
 have hnew:∀ i x,(H.set b .dead++[k'])[i]?=some x→¬ i<H.length→i=H.length∧x=k':=fun i x h hi=>by
  rw [List.getElem?_append_right (by simp; omega)] at h
  have:i - (H.set b .dead).length=0:=by
   rcases Nat.eq_zero_or_pos (i - (H.set b .dead).length) with e |e
   ·exact e
   ·rw [List.getElem?_eq_none (by simp at e ⊢; omega)] at h; cases h
  rw [this] at h
  simp at h this
  exact ⟨by omega,h.symm⟩
 have hcI:∀ o,I c o=none:=hs.sep b k _ hk hl hρ hn
 have hno:∀ i x y,(H.set b .dead)[i]?=some x→x.Qfn=true→ρ i=some y→0<y.2.2→y.1≠c:=fun i x y hx hsx hy q e=>by
  have hi:H[i]?=some x∧i≠b:=by
   rw [List.getElem?_set] at hx
   split at hx
   ·rename_i e'; simp [hlen] at hx; subst hx; simp [Blk.Qfn] at hsx
   ·rename_i e'; exact ⟨hx,fun h=>e' h.symm⟩
  exact hi.2 (hs.inj i b x k y _ hi.1 hk hsx (Blk.QaE hl) hy hρ q hn e)
 constructor
 ·refine ⟨s1.imm,fun i hi=>?_,fun i x hx=>?_,fun i x d z' n' hx hr=>?_,fun i i' x x' y y' hx hx' l l' hr hr' q1 q2 e=>?_,fun i x y hx lx hr q o=>?_⟩
  ·by_cases e:i=H.length
   ·subst e; exact ⟨_,Ren.QaV _ _ _⟩
   ·rw [Ren.QcP _ _ e]; exact hs.tot i (by simp at hi; omega)
  ·by_cases e:i=H.length
   ·subst e; rw [Ren.QaV] at hx; cases hx; exact ⟨by simp,(s1.dom b _ hρ).2⟩
   ·rw [Ren.QcP _ _ e] at hx; have:=s1.dom i x hx; exact ⟨by simp at this ⊢; omega,this.2⟩
  ·by_cases hlt:i<H.length
   ·rw [Ren.QcP _ _ (by omega)] at hr
    exact (s1.blk i x d z' n' (hold i x hx hlt) hr).mono (Imm.le_refl I) hmono (fun _=>rfl)
   ·obtain ⟨rfl,rfl⟩:=hnew i x hx hlt
    rw [Ren.QaV] at hr; cases hr; exact hb
  ·by_cases h1:i<H.length<;>by_cases h2:i'<H.length
   ·rw [Ren.QcP _ _ (by omega)] at hr hr'
    exact s1.inj i i' x x' y y' (hold _ _ hx h1) (hold _ _ hx' h2) l l' hr hr' q1 q2 e
   ·obtain ⟨rfl,rfl⟩:=hnew _ _ hx' h2
    rw [Ren.QaV] at hr'; cases hr'; rw [Ren.QcP _ _ (by omega)] at hr
    exact absurd e (hno i x y (hold _ _ hx h1) l hr q1)
   ·obtain ⟨rfl,rfl⟩:=hnew _ _ hx h1
    rw [Ren.QaV] at hr; cases hr; rw [Ren.QcP _ _ (by omega)] at hr'
    exact absurd e.symm (hno i' x' y' (hold _ _ hx' h2) l' hr' q2)
   ·rw [(hnew _ _ hx h1).1,(hnew _ _ hx' h2).1]
  ·by_cases h1:i<H.length
   ·rw [Ren.QcP _ _ (by omega)] at hr; exact s1.sep i x y (hold _ _ hx h1) lx hr q o
   ·obtain ⟨rfl,rfl⟩:=hnew _ _ hx h1
    rw [Ren.QaV] at hr; cases hr; exact hcI o
 ·refine ⟨Imm.le_refl I,fun _ _ _ h=>.inl h,fun i hi=>Ren.QcP _ _ (by omega),fun i x hi hx hsx=>e1.Qv8 i x hi (hold _ _ hx hi) hsx,?_,?_,hu.os,hu.tape,hu.output,by rw [hu.size]; omega,e1.kept⟩
  ·rintro d ⟨i,x,y,hx,hsx,hy,e⟩
   by_cases h1:i<H.length
   ·rw [Ren.QcP _ _ (by omega)] at hy
    exact e1.newS d ⟨i,x,y,hold _ _ hx h1,hsx,hy,e⟩
   ·obtain ⟨rfl,rfl⟩:=hnew _ _ hx h1
    rw [Ren.QaV] at hy; cases hy; exact .inl ⟨b,k,_,hk,Blk.QaE hl,hρ,e⟩
  ·rintro d ⟨i,x,y,hx,hsx,hy,e⟩
   by_cases h1:i<H.length
   ·rw [Ren.QcP _ _ (by omega)] at hy
    exact e1.newL d ⟨i,x,y,hold _ _ hx h1,hsx,hy,e⟩
   ·obtain ⟨rfl,rfl⟩:=hnew _ _ hx h1
    rw [Ren.QaV] at hy; cases hy; exact .inl ⟨b,k,_,hk,hl,hρ,e⟩
theorem Sim.Qz5 (hs:Sim I ρ H w)(z:Nat):Sim I (ρ.put H.length (0,z,0)) (H++[.rows z true []]) w∧Ext H.length I ρ H w I (ρ.put H.length (0,z,0)) (H++[.rows z true []]) w:=by
 have hmono:=hs.Qpi (0,z,0)
 have hold:∀ b k',(H++[Blk.rows z true []])[b]?=some k'→b<H.length→H[b]?=some k':=fun b k' h hb=>by rwa [List.getElem?_append_left hb] at h
 have hlt:∀ b x,ρ.put H.length (0,z,0) b=some x→0<x.2.2→b<H.length∧ρ b=some x:=fun b x hx q=>by
  by_cases e:b=H.length
  ·subst e; rw [Ren.QaV] at hx; cases hx; exact absurd q (Nat.lt_irrefl 0)
  ·rw [Ren.QcP _ _ e] at hx; exact ⟨(hs.dom b x hx).1,hx⟩
 constructor
 ·refine ⟨hs.imm,fun b hb=>?_,fun b x hx=>?_,fun b k' c z' n' hk hx=>?_,fun b b' k1 k2 x x' hk1 hk2 l1 l2 hx hx' q1 q2 e=>?_,fun b k' x hk hl hx q o=>?_⟩
  ·by_cases e:b=H.length
   ·subst e; exact ⟨_,Ren.QaV _ _ _⟩
   ·rw [Ren.QcP _ _ e]; exact hs.tot b (by simp at hb; omega)
  ·by_cases e:b=H.length
   ·subst e; rw [Ren.QaV] at hx; cases hx; exact ⟨by simp,fun q=>absurd q (Nat.lt_irrefl 0)⟩
   ·rw [Ren.QcP _ _ e] at hx; have:=hs.dom b x hx; exact ⟨by simp; omega,this.2⟩
  ·by_cases e:b=H.length
   ·subst e
    rw [Ren.QaV] at hx
    rw [List.getElem?_append_right (Nat.le_refl _),Nat.sub_self] at hk
    simp at hk hx
    obtain ⟨rfl,rfl,rfl⟩:=hx
    subst hk
    exact ⟨rfl,Nat.le_refl _,fun r hr=>by simp at hr,fun o ho=>by omega,fun i j r x v hr=>by simp at hr⟩
   ·rw [Ren.QcP _ _ e] at hx
    exact (hs.blk b k' c z' n' (hold b k' hk (hs.dom b _ hx).1) hx).mono (Imm.le_refl I) hmono (fun _=>rfl)
  ·obtain ⟨a1,a2⟩:=hlt b x hx q1
   obtain ⟨b1,b2⟩:=hlt b' x' hx' q2
   exact hs.inj b b' k1 k2 x x' (hold _ _ hk1 a1) (hold _ _ hk2 b1) l1 l2 a2 b2 q1 q2 e
  ·obtain ⟨a1,a2⟩:=hlt b x hx q
   exact hs.sep b k' x (hold _ _ hk a1) hl a2 q o
 ·refine ⟨Imm.le_refl I,fun _ _ _ h=>.inl h,fun b hb=>Ren.QcP _ _ (by omega),fun b k' hb hk hl=>⟨k',hold _ _ hk hb,hl⟩,?_,?_,rfl,rfl,rfl,Nat.le_refl _,fun _ _ _=>rfl⟩
  all_goals
   rintro c ⟨b,k',x,hk,hl,hx,e,q⟩
   obtain ⟨a1,a2⟩:=hlt b x hx q
   exact .inl ⟨b,k',x,hold _ _ hk a1,hl,a2,e,q⟩
theorem Sim.drawn (hs:Sim I ρ H w)(hh:w'.heap=w.heap)(h1:w'.os=w.os)(h2:w'.tape=w.tape)(h3:w'.output=w.output):Sim I ρ H w'∧Ext H.length I ρ H w I ρ H w':=by
 have e:∀ c:Nat,w'.heap[c]?=w.heap[c]?:=fun c=>by rw [hh]
 refine ⟨⟨hs.imm.keep fun c _ _ _=>e c,hs.tot,fun b x hx=>by rw [hh]; exact hs.dom b x hx,fun b k c z n hk hr=>(hs.blk b k c z n hk hr).mono (Imm.le_refl I) (fun _ _ h=>h) (fun _=>e c),hs.inj,hs.sep⟩,?_⟩
 exact ⟨Imm.le_refl I,fun _ _ _ h=>.inl h,fun _ _=>rfl,fun b k _ h hs=>⟨k,h,hs⟩,fun _ h=>.inl h,fun _ h=>.inl h,h1,h2,h3,by rw [hh]; omega,fun c _ _=>e c⟩
end
end Go.Ev
namespace Go.Ev
open Go.RowKit
theorem Qlo {α β:Type}(f:α→Option β):∀ (l:List α) (m:List β),mapM' f l=some m→m.length=l.length∧∀ (i:Nat) (a:α),l[i]?=some a→∃ b,m[i]?=some b∧f a=some b
 | [],m,h=>by simp [mapM'_nil] at h; subst h; exact ⟨rfl,fun i a hi=>by simp at hi⟩
 | a::l,m,h=>by
  rw [mapM'_cons] at h
  unfold QCB at h
  cases hf:f a with
  | none=>simp [hf] at h
  | some b=>
   cases hm:mapM' f l with
   | none=>simp [hf,hm] at h
   | some ms=>
    simp [hf,hm] at h
    subst h
    obtain ⟨h1,h2⟩:=Qlo f l ms hm
    refine ⟨by simp [h1],fun i x hi=>?_⟩
    cases i with
    | zero=>simp at hi; subst hi; exact ⟨b,rfl,hf⟩
    | succ i=>simpa using h2 i x (by simpa using hi)
theorem QeE {α β:Type}{es:List α}{off len:Nat}{k:List α→Option β}{x:β}(h:Qdh es off len k=some x):off+len≤es.length∧k ((es.drop off).take len)=some x:=by
 unfold Qdh at h
 cases hb:Nat.ble (off+len) es.length with
 | false=>simp [hb] at h
 | true=>simp only [hb,Qat] at h; exact ⟨Nat.le_of_ble_eq_true hb,h⟩
theorem QpR {α:Type}{es:List α}{off len i:Nat}{r:α}(h:((es.drop off).take len)[i]?=some r):i<len∧es[off+i]?=some r:=by
 rw [List.getElem?_take] at h
 split at h
 ·rename_i hi; exact ⟨hi,by simpa [List.getElem?_drop] using h⟩
 ·cases h
theorem QnG {α:Type}{es:List α}{off len:Nat}{r:α}(h:r∈(es.drop off).take len):r∈es:=List.mem_of_mem_drop (List.mem_of_mem_take h)
section
variable {I J:Imm} {ρ:Ren} {H:Heap} {w:World}
theorem Qz6 {b c z n off len cap:Nat}{a:Addr}{es:List (List AV)}(hle:off+len≤es.length)(hn:es.length≤n)(hz:∀ r∈es,r.length=z∧∀ x∈r,x.Qax=true)
  (hc:∀ i j r x,es[i]?=some r→r[j]?=some x→∃ v,J c (i * z+j)=some v∧VRel J ρ0 x v)
  (ha:0<len∨off=0→a=⟨c,off * z,none⟩∧off+cap≤n) (hl:len≤cap):VRel J ρ0 (.lst ((es.drop off).take len)) (.slice (some a) len cap):=by
 have hlen:((es.drop off).take len).length=len:=by simp; omega
 rcases Nat.eq_zero_or_pos len with h0 |h0
 ·subst h0
  rw [List.take_zero]
  exact .lst0 _ _ _
 ·obtain ⟨rfl,_⟩:=ha (.inl h0)
  have hne:(es.drop off).take len≠[]:=fun e=>by rw [e] at hlen; simp at hlen; omega
  have hex:∀ i j,∃ v,∀ r x,es[off+i]?=some r→r[j]?=some x→J c ((off+i) * z+j)=some v∧VRel J ρ0 x v:=fun i j=>by
   cases hr:es[off+i]? with
   | none=>exact ⟨undef,fun r x h=>by cases h⟩
   | some r=>
    cases hx:r[j]? with
    | none=>exact ⟨undef,fun r' x h h'=>by cases h; rw [hx] at h'; cases h'⟩
    | some x=>
     obtain ⟨v,hv⟩:=hc _ _ r x hr hx
     exact ⟨v,fun r' x' h h'=>by cases h; rw [hx] at h'; cases h'; exact hv⟩
  have key:=VRel.lst (I:=J) ρ0 ((es.drop off).take len) c (off * z) cap z (fun i j=>Classical.choose (hex i j)) hne (by omega) (fun r hr=>(hz r (QnG hr)).1)
   (fun i j r x hr hx=>by
    obtain ⟨hi,hr'⟩:=QpR hr
    have:=(Classical.choose_spec (hex i j) r x hr' hx).1
    rwa [show off * z+(i * z+j)=(off+i) * z+j by rw [Nat.add_mul]; omega])
   (fun i j r x hr hx=>by
    obtain ⟨hi,hr'⟩:=QpR hr
    exact (Classical.choose_spec (hex i j) r x hr' hx).2)
   (fun r hr=>(hz r (QnG hr)).2)
  rwa [hlen] at key
def QyF (J:Imm)(w:World)(H:Heap)(ρ:Ren)(b:Nat):Prop:=∀ z es x,H[b]?=some (.rows z true es)→ρ b=some x→0<x.2.2→∀ o u,w.cell? ⟨x.1,o,none⟩=some u→J x.1 o=some u
theorem QpS (hs:Sim I ρ H w)(hI:I.le J){b c z n z':Nat}{es:List (List AV)}(hH:QyF J w H ρ b)(hρ:ρ b=some (c,z,n))
  (hb:H[b]?=some (.rows z' true es)∨H[b]?=some (.ro z' es)):
  es.length≤n∧(∀ r∈es,r.length=z∧∀ x∈r,x.Qax=true)∧∀ i j r x,es[i]?=some r→r[j]?=some x→∃ v,J c (i * z+j)=some v∧VRel J ρ0 x v:=by
 rcases hb with hb |hb
 ·obtain ⟨rfl,h2,h3,h4,h5⟩:=hs.blk b _ c z n hb hρ
  refine ⟨h2,h3,fun i j r x hr hx=>?_⟩
  have hi:i<es.length:=(List.getElem?_eq_some_iff.1 hr).1
  have hj:j<z':=by have:=(List.getElem?_eq_some_iff.1 hx).1; rw [(h3 r (List.mem_of_getElem? hr)).1] at this; exact this
  have hlt:i * z'+j<n * z':=by
   have:(i+1) * z'≤n * z':=Nat.mul_le_mul_right _ (by omega)
   rw [Nat.add_mul] at this; omega
  obtain ⟨v,hv⟩:=Option.isSome_iff_exists.1 (h4 _ hlt).1
  exact ⟨v,hH _ _ _ hb hρ (show 0<n by omega) _ _ hv,(h5 i j r x v hr hx hv).imm hI⟩
 ·obtain ⟨rfl,h2,h3,h4⟩:=hs.blk b _ c z n hb hρ
  refine ⟨h2,h3,fun i j r x hr hx=>?_⟩
  obtain ⟨v,hv,hrel⟩:=h4 i j r x hr hx
  exact ⟨v,hI _ _ _ hv,hrel.imm hI⟩
theorem QgV (hs:Sim I ρ H w)(hI:I.le J):∀ (n:Nat) (v x:AV) (cv:Value),Qaj H n v=some x→VRel I ρ v cv→(∀ b∈frozenIn n v,QyF J w H ρ b)→VRel J ρ0 x cv
 | 0,v,x,cv,h,_,_=>by simp [Qaj] at h
 | n+1,v,x,cv,h,hv,hb=>by
  cases hv with
  | undef=>simp [Qaj] at h
  | bool=>simp [Qaj] at h; subst h; exact .bool _ _
  | int=>simp [Qaj] at h; subst h; exact .int _ _ _
  | str _ s bs hh=>simp [Qaj] at h; subst h; exact .str _ _ _ hh
  | nilp=>simp [Qaj] at h; subst h; exact .nilp _
  | ptr=>simp [Qaj] at h
  | iptr _ cs g off vs h1 h2=>simp [Qaj] at h; subst h; exact .iptr _ _ _ _ vs (fun j x hx=>hI _ _ _ (h1 j x hx)) (fun j x hx=>(h2 j x hx).imm hI)
  | nils=>simp [Qaj] at h; subst h; exact .lst0 _ _ _
  | emp=>simp [Qaj] at h; subst h; exact .lst0 _ _ _
  | lst0=>simp [Qaj] at h; subst h; exact .lst0 _ _ _
  | lst _ es g off cap z vs hne hl hz h1 h2 hc=>
   simp [Qaj] at h; subst h
   exact .lst _ _ _ _ _ z vs hne hl hz (fun i j r x hr hx=>hI _ _ _ (h1 i j r x hr hx)) (fun i j r x hr hx=>(h2 i j r x hr hx).imm hI) hc
  | sl _ b off len a cap c z m hρ ha hl=>
   have hbb:QyF J w H ρ b:=hb b (by simp [frozenIn])
   simp only [Qaj] at h
   cases hk:H[b]? with
   | none=>simp [hk] at h
   | some k=>
    cases k with
    | rows z' p es=>
     cases p with
     | false=>simp [hk] at h
     | true=>
      simp only [hk] at h
      obtain ⟨hle,hx⟩:=QeE h
      cases hx
      obtain ⟨r1,r2,r3⟩:=QpS hs hI hbb hρ (.inl hk)
      exact Qz6 (b:=b) hle r1 r2 r3 ha hl
    | ro z' es=>
     simp only [hk] at h
     obtain ⟨hle,hx⟩:=QeE h
     cases hx
     obtain ⟨r1,r2,r3⟩:=QpS hs hI hbb hρ (.inr hk)
     exact Qz6 (b:=b) hle r1 r2 r3 ha hl
    | map=>simp [hk] at h
    | iter=>simp [hk] at h
    | dead=>simp [hk] at h
  | sle _ b c z m a hρ=>
   simp only [Qaj] at h
   have key:∀ es:List (List AV),Qdh es 0 0 (fun es=>some (AV.lst es))=some x→VRel J ρ0 x (.slice a 0 0):=fun es h=>by
    obtain ⟨hle,hx⟩:=QeE h
    cases hx
    rw [List.take_zero]
    exact .lst0 _ _ _
   cases hk:H[b]? with
   | none=>simp [hk] at h
   | some k=>
    cases k with
    | rows z' p es=>
     cases p with
     | false=>simp [hk] at h
     | true=>simp only [hk] at h; exact key _ h
    | ro z' es=>simp only [hk] at h; exact key _ h
    | map=>simp [hk] at h
    | iter=>simp [hk] at h
    | dead=>simp [hk] at h
  | nilm=>simp [Qaj] at h; subst h; exact .nilm _
  | map=>simp [Qaj] at h
  | nilf=>simp [Qaj] at h; subst h; exact .nilf _
  | fn _ f caps vs hl hh=>
   cases caps with
   | nil=>simp [Qaj] at h; subst h; exact .fn _ _ _ _ hl (fun j x v hx=>by simp at hx)
   | cons=>simp [Qaj] at h
  | nili=>simp [Qaj] at h; subst h; exact .nili _
  | iface _ t v cv' hh=>
   simp only [Qaj] at h
   cases hf:Qaj H n v with
   | none=>simp [hf] at h
   | some y=>
    simp [hf] at h; subst h
    exact .iface _ _ _ _ (QgV hs hI n v y cv' hf hh.any (fun b hb'=>hb b (by simpa [frozenIn] using hb')))
  | agg _ cs vs hl hh=>
   simp only [Qaj] at h
   cases hf:mapM' (Qaj H n) cs with
   | none=>simp [hf] at h
   | some ys=>
    simp [hf] at h; subst h
    obtain ⟨h1,h2⟩:=Qlo _ _ _ hf
    refine .agg _ _ _ (by rw [h1]; exact hl) (fun j y v hy hvv=>?_)
    have hj:j<cs.length:=by rw [← h1]; exact (List.getElem?_eq_some_iff.1 hy).1
    obtain ⟨y',hy',hfy⟩:=h2 j cs[j] (List.getElem?_eq_getElem hj)
    rw [hy] at hy'; cases hy'
    exact QgV hs hI n cs[j] y v hfy (hh j _ v (List.getElem?_eq_getElem hj) hvv) (fun b hb'=>hb b (by
     simp only [frozenIn,List.mem_flatMap]
     exact ⟨cs[j],List.getElem_mem hj,hb'⟩))
  | tup=>simp [Qaj] at h
theorem Qz7 {b:Nat}{H':Heap}(h:shut H b=some H'):H'.length=H.length∧∀ i k',H'[i]?=some k'→
  (∃ z es,i=b∧k'=.ro z es∧(H[i]?=some (.rows z true es)∨H[i]?=some (.ro z es)))∨(i≠b∧H[i]?=some k'):=by
 unfold shut at h
 cases hk:H[b]? with
 | none=>simp [hk] at h
 | some k=>
  have hlen:b<H.length:=(List.getElem?_eq_some_iff.1 hk).1
  cases k with
  | rows z p es=>
   cases p with
   | false=>simp [hk] at h
   | true=>
    simp only [hk,Qat,osi] at h
    subst h
    refine ⟨by simp,fun i k' hi=>?_⟩
    rw [List.getElem?_set] at hi
    split at hi
    ·rename_i e; subst e; simp [hlen] at hi; exact .inl ⟨z,es,rfl,hi.symm,.inl hk⟩
    ·rename_i e; exact .inr ⟨fun e'=>e e'.symm,hi⟩
  | ro z es=>
   simp only [hk,osi] at h
   subst h
   refine ⟨rfl,fun i k' hi=>?_⟩
   by_cases e:i=b
   ·subst e; rw [hk] at hi; cases hi; exact .inl ⟨z,es,rfl,rfl,.inr hk⟩
   ·exact .inr ⟨e,hi⟩
  | map=>simp [hk] at h
  | iter=>simp [hk] at h
  | dead=>simp [hk] at h
theorem Qhy:∀ (l:List Nat) (H H':Heap),QbT l H=some H'→H'.length=H.length∧∀ i k',H'[i]?=some k'→
  (∃ z es,i∈l∧k'=.ro z es∧(H[i]?=some (.rows z true es)∨H[i]?=some (.ro z es)))∨(i ∉ l∧H[i]?=some k')
 | [],H,H',h=>by simp [QbT] at h; subst h; exact ⟨rfl,fun i k' hi=>.inr ⟨by simp,hi⟩⟩
 | b::l,H,H',h=>by
  simp only [QbT] at h
  cases h1:shut H b with
  | none=>simp [h1] at h
  | some H1=>
   simp only [h1] at h
   obtain ⟨a1,a2⟩:=Qz7 h1
   obtain ⟨b1,b2⟩:=Qhy l H1 H' h
   refine ⟨b1.trans a1,fun i k' hi=>?_⟩
   rcases b2 i k' hi with ⟨z,es,hm,rfl,hH1⟩ |⟨hm,hH1⟩
   ·refine .inl ⟨z,es,by simp [hm],rfl,?_⟩
    rcases hH1 with hH1 |hH1<;>rcases a2 i _ hH1 with ⟨z',es',rfl,e,hH⟩ |⟨_,hH⟩
    ·cases e
    ·exact .inl hH
    ·cases e; exact hH
    ·exact .inr hH
   ·rcases a2 i k' hH1 with ⟨z,es,rfl,rfl,hH⟩ |⟨hne,hH⟩
    ·exact .inl ⟨z,es,by simp,rfl,hH⟩
    ·exact .inr ⟨by simp [hne,hm],hH⟩
theorem Sim.frozen {w':World}{l:List Nat}{H':Heap}(hs:Sim I ρ H w)(h:QbT l H=some H')(hI:I.le J)(hJ:Qft J w')(hb:Below w.heap.size w w')
  (hJ1:∀ b∈l,QyF J w H ρ b) (hJ2:∀ c o v,J c o=some v→I c o=some v∨(∃ b∈l,∃ k x,H[b]?=some k∧k.live=true∧ρ b=some x∧x.1=c∧0<x.2.2)∨w.heap.size≤c):
  Sim J ρ H' w'∧Ext H.length I ρ H w J ρ H' w':=by
 obtain ⟨hlen,hspec⟩:=Qhy l H H' h
 have hold:∀ b x,ρ b=some x→0<x.2.2→w'.heap[x.1]?=w.heap[x.1]?:=fun b x hx q=>hb.block _ ((hs.dom b x hx).2 q)
 have hback:∀ (i:Nat) (k':Blk),H'[i]?=some k'→k'.Qfn=true→∃ k,H[i]?=some k∧k.Qfn=true:=fun i k' hi hk=>by
  rcases hspec i k' hi with ⟨z,es,_,_,hH |hH⟩ |⟨_,hH⟩
  ·exact ⟨_,hH,rfl⟩
  ·exact ⟨_,hH,rfl⟩
  ·exact ⟨_,hH,hk⟩
 have hlive:∀ (i:Nat) (k':Blk),H'[i]?=some k'→k'.live=true→i ∉ l∧H[i]?=some k':=fun i k' hi hk=>by
  rcases hspec i k' hi with ⟨z,es,_,rfl,_⟩ |hH
  ·simp [Blk.live] at hk
  ·exact hH
 constructor
 ·refine ⟨hJ,fun b hb'=>hs.tot b (by omega),fun b x hx=>?_,fun i k' c z n hi hx=>?_,fun i i' k k' x x' hi hi' s1 s2 hx hx' q1 q2 e=>?_,fun i k' x hi hk hx q o=>?_⟩
  ·have:=hs.dom b x hx; exact ⟨by omega,fun q=>Nat.lt_of_lt_of_le (this.2 q) hb.size⟩
  ·rcases hspec i k' hi with ⟨z',es,hm,rfl,hH⟩ |⟨hm,hH⟩
   ·obtain ⟨r1,r2,r3⟩:=QpS hs hI (hJ1 i hm) hx hH
    have hz:z'=z:=by
     rcases hH with hH |hH
     ·exact (hs.blk i _ c z n hH hx).1
     ·exact (hs.blk i _ c z n hH hx).1
    exact ⟨hz,r1,r2,r3⟩
   ·exact (hs.blk i k' c z n hH hx).mono hI (fun _ _ h=>h) (hold i _ hx)
  ·obtain ⟨k1,h1,t1⟩:=hback i k hi s1
   obtain ⟨k2,h2,t2⟩:=hback i' k' hi' s2
   exact hs.inj i i' k1 k2 x x' h1 h2 t1 t2 hx hx' q1 q2 e
  ·obtain ⟨hm,hH⟩:=hlive i k' hi hk
   cases hv:J x.1 o with
   | none=>rfl
   | some v=>
    rcases hJ2 _ _ _ hv with h1 |⟨b,hbl,k,y,hk1,hl1,hy,e,q'⟩ |h1
    ·rw [hs.sep i k' x hH hk hx q o] at h1; cases h1
    ·have:=hs.inj b i k k' y x hk1 hH (Blk.QaE hl1) (Blk.QaE hk) hy hx q' q e
     subst this; exact absurd hbl hm
    ·have:=(hs.dom i x hx).2 q; omega
 ·refine ⟨hI,fun c o v hv=>?_,fun _ _=>rfl,fun b k hb' hk hsk=>hback b k hk hsk,?_,?_,hb.os,hb.tape,hb.output,hb.size,fun c hc _=>hb.block c hc⟩
  ·rcases hJ2 c o v hv with h1 |⟨b,hbl,k,y,hk1,hl1,hy,e⟩ |h1
   ·exact .inl h1
   ·exact .inr (.inl ⟨b,k,y,hk1,hl1,hy,e⟩)
   ·exact .inr (.inr h1)
  ·rintro c ⟨i,k',x,hi,hk,hx,e⟩
   obtain ⟨k1,h1,t1⟩:=hback i k' hi hk
   exact .inl ⟨i,k1,x,h1,t1,hx,e⟩
  ·rintro c ⟨i,k',x,hi,hk,hx,e⟩
   exact .inl ⟨i,k',x,(hlive i k' hi hk).2,hk,hx,e⟩
open Classical in
noncomputable def Imm.add (I:Imm)(w:World)(S:Nat→Prop):Imm:=fun c o=>if S c then w.cell? ⟨c,o,none⟩ else I c o
theorem Imm.QuA (hs:Qft I w)(S:Nat→Prop):I.le (I.add w S):=fun c o v hv=>by
 unfold Imm.add
 split
 ·exact hs.at_ c o v hv
 ·exact hv
theorem Imm.Qlp (hs:Qft I w)(S:Nat→Prop):Qft (I.add w S) w:=⟨fun c o v hv=>by
 unfold Imm.add at hv
 split at hv
 ·exact hv
 ·exact hs.at_ c o v hv⟩
def QoI (H:Heap)(ρ:Ren)(l:List Nat)(c:Nat):Prop:=∃ b∈l,∃ k x,H[b]?=some k∧k.live=true∧ρ b=some x∧x.1=c∧0<x.2.2
theorem QiA (H:Heap)(ρ:Ren)(l:List Nat):∀ b∈l,QyF (I.add w (QoI H ρ l)) w H ρ b:=fun b hb z es x hk hx q o u hu=>by
 unfold Imm.add
 rw [if_pos ⟨b,hb,_,x,hk,rfl,hx,rfl,q⟩]
 exact hu
theorem Qv9 (H:Heap)(ρ:Ren)(l:List Nat):∀ c o v,(I.add w (QoI H ρ l)) c o=some v→I c o=some v∨(∃ b∈l,∃ k x,H[b]?=some k∧k.live=true∧ρ b=some x∧x.1=c∧0<x.2.2)∨w.heap.size≤c:=
 fun c o v hv=>by
 unfold Imm.add at hv
 split at hv
 ·rename_i h; exact .inr (.inl h)
 ·exact .inl hv
theorem Ql3 (hs:Sim I ρ H w){v x:AV}{H':Heap}(h:QeU H v=some (x,H')){cv:Value}(hv:VRel I ρ v cv):
  ∃ J,Sim J ρ H' w∧Ext H.length I ρ H w J ρ H' w∧VRel J ρ0 x cv∧H'.length=H.length:=by
 unfold QeU at h
 cases hf:freeze H v with
 | none=>simp [hf] at h
 | some y=>
  simp only [hf] at h
  cases hsh:QbT (frozenIn 12 v) H with
  | none=>simp [hsh] at h
  | some H1=>
   simp only [hsh,osi,Prod.mk.injEq] at h
   obtain ⟨rfl,rfl⟩:=h
   have hI:=Imm.QuA hs.imm (QoI H ρ (frozenIn 12 v))
   obtain ⟨s1,e1⟩:=hs.frozen hsh hI (Imm.Qlp hs.imm _) (Below.refl _ _) (QiA H ρ _) (Qv9 H ρ _)
   exact ⟨_,s1,e1,QgV hs hI 12 v y cv hf hv (QiA H ρ _),(Qhy _ _ _ hsh).1⟩
theorem Qpj {ρ':Ren}:∀ (n:Nat) (v:AV) (cv:Value),Qhp n v=true→VRel I ρ v cv→VRel J ρ' v cv
 | 0,v,cv,h,_=>by simp [Qhp] at h
 | n+1,v,cv,h,hv=>by
  cases hv with
  | bool=>exact .bool _ _
  | int=>exact .int _ _ _
  | str _ s bs hh=>exact .str _ _ _ hh
  | nilp=>exact .nilp _
  | nils=>exact .nils _
  | emp=>exact .emp _ _
  | nilm=>exact .nilm _
  | nilf=>exact .nilf _
  | nili=>exact .nili _
  | fn _ f caps vs hl hh=>
   cases caps with
   | nil=>exact .fn _ _ _ _ hl (fun j x v hx=>by simp at hx)
   | cons=>simp [Qhp] at h
  | iface _ t v cv' hh=>exact .iface _ _ _ _ (Qpj n v cv' (by simpa [Qhp] using h) hh.any)
  | agg _ cs vs hl hh=>
   refine .agg _ _ _ hl (fun j x v hx hvv=>Qpj n x v ?_ (hh j x v hx hvv))
   simp only [Qhp,List.all_eq_true] at h
   exact h x (List.mem_of_getElem? hx)
  | tup _ cs vs hl hh=>
   refine .tup _ _ _ hl (fun j x v hx hvv=>Qpj n x v ?_ (hh j x v hx hvv))
   simp only [Qhp,List.all_eq_true] at h
   exact h x (List.mem_of_getElem? hx)
  | _=>simp [Qhp] at h
end
end Go.Ev
