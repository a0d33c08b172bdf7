/- slices.Insert of one element and slices.Delete, elements of one cell, as contracts of the abstract machine. Conditions: what the two functions do in the model's heap. -/
import Derived.Test.YthmbnnjimbjplaaGreatDoorTu8
import Derived.CallsIn
set_option linter.unusedSimpArgs false
set_option linter.unusedVariables false
namespace Go.AM
open List Nat Bool Option
open Go Go.RowKit
noncomputable section
variable {arr:Array Value} {cs:List AV} {us:List Value}
structure xW (a b:World):Prop where
 heap:a.heap=b.heap
 os:a.os=b.os
 tape:a.tape=b.tape
 output:a.output=b.output
def bG(arr:Array Value)(off n:Nat):List Value:=(arr.toList.drop off).take n
def AB(P:Program)(fd:FuncId):Prop:=
 ∀ (b:Nat) (arr:Array Value) (el:TypeId) (fr:Nat×Nat) (off n c i j:Nat) (w:World),w.heap[b]?=some (.cells arr el fr)->fr.2<=fr.1->off+c<=arr.size->n<=c->i<=j->j<=n->n*24<=140737488355328->(∀ v ∈ bG arr off n,v.oneCell'=true) ->
  Calls P fd #[.slice (some ⟨b,off,none⟩) n c,.int .i64 (i:Int),.int .i64 (j:Int)] w fun e w'=>e = .returned (.slice (some ⟨b,off,none⟩) (n-(j-i)) c) /\
   ∃ p6:Array Value,p6.size=arr.size/\(∀ (k:Nat) (v:Value),((bG arr off n).take i++(bG arr off n).drop j)[k]?=some v->p6[off+k]?=some v)/\xW w' (eS w b (.cells p6 el fr))
structure AD (P:Program) (fi:FuncId):Prop where
 row:∀ (b vb:Nat) (arr arr2:Array Value) (el el2:TypeId) (fr fr2:Nat×Nat) (off n c i voff vc:Nat) (x:Value) (w:World),w.heap[b]?=some (.cells arr el fr)->fr.2<=fr.1->w.heap[vb]?=some (.cells arr2 el2 fr2)->fr2.2<=fr2.1->b≠vb ->
  off+c<=arr.size->n<=c->1<=vc->voff+vc<=arr2.size->arr2[voff]?=some x->i<=n->(n+1)*24<=140737488355328->(∀ v ∈ bG arr off n,v.oneCell'=true)->x.oneCell'=true ->
  Calls P fi #[.slice (some ⟨b,off,none⟩) n c,.int .i64 (i:Int),.slice (some ⟨vb,voff,none⟩) 1 vc] w fun e w'=>
   (n+1<=c/\e = .returned (.slice (some ⟨b,off,none⟩) (n+1) c)/\∃ p6:Array Value,p6.size=arr.size/\(∀ (k:Nat) (v:Value),((bG arr off n).take i++x :: (bG arr off n).drop i)[k]?=some v->p6[off+k]?=some v)/\xW w' (eS w b (.cells p6 el fr))) \/
   ∃ (cap:Nat) (row:Array Value) (ty:TypeId),n+1<=cap/\e = .returned (.slice (some ⟨w.heap.size,0,none⟩) (n+1) cap)/\row.size=cap/\(∀ (k:Nat) (v:Value),((bG arr off n).take i++x :: (bG arr off n).drop i)[k]?=some v->row[k]?=some v)/\xW w' (w.alloc (.cells row ty))
 nil:∀ (vb:Nat) (arr2:Array Value) (el2:TypeId) (fr2:Nat×Nat) (voff vc:Nat) (x:Value) (w:World),w.heap[vb]?=some (.cells arr2 el2 fr2)->fr2.2<=fr2.1->1<=vc->voff+vc<=arr2.size->arr2[voff]?=some x->x.oneCell'=true ->
  Calls P fi #[.slice none 0 0,.int .i64 0,.slice (some ⟨vb,voff,none⟩) 1 vc] w fun e w'=>
   ∃ (cap:Nat) (row:Array Value) (ty:TypeId),1<=cap/\e = .returned (.slice (some ⟨w.heap.size,0,none⟩) 1 cap)/\row.size=cap/\row[0]?=some x/\xW w' (w.alloc (.cells row ty))
def p7:List AV->Heap->(Out->Heap->Bool)->Bool:=fun args h K=>
 match args with
 |[.slice b 0 n 1,.int .i64 (.ofNat i),.int .i64 (.ofNat j)]=>(match h.get b with
  |some (.cells cs)=>!h.bk&&(Nat.beq cs.length n&&(ble (i+1) j&&(ble j n&&(ble (n*24) 140737488355328&&(bw cs&&K (.ret (.slice h.next 0 (n-(j-i)) 1)) ((h.set b .dead).alloc (.cells (cs.take i++cs.drop j))))))))
  |_=>false)
 |_=>false
def lf:List AV->Heap->(Out->Heap->Bool)->Bool:=fun args h K=>
 match args with
 |[s,.int .i64 (.ofNat i),.slice vb 0 1 1]=>(match h.get vb with
  |some (.cells [x])=>!h.bk&&x.one&&(match s with
   |.aE=>Nat.beq i 0&&K (.ret (.slice h.next 0 1 1)) (h.alloc (.cells [x]))
   |.slice b 0 n 1=>(match h.get b with
    |some (.cells cs)=>!(Nat.beq b vb)&&(Nat.beq cs.length n&&(ble 1 n&&(ble i n&&(ble ((n+1)*24) 140737488355328&&(bw cs&&K (.ret (.slice h.next 0 (n+1) 1)) ((h.set b .dead).alloc (.cells (cs.take i++x :: cs.drop i))))))))
    |_=>false)
   |_=>false)
  |_=>false)
 |_=>false
section
variable {P:Program} {w0 w:World} {μ:Mu} {h:Heap}
theorem eL{off n i:Nat}(hi:i<n):(bG arr off n)[i]?=arr[off+i]?:=by
 unfold bG;rw [getElem?_take,if_pos hi,getElem?_drop,Array.getElem?_toList]
theorem jU{off n:Nat}(hl:off+n<=arr.size):(bG arr off n).length=n:=by unfold bG;simp;omega
theorem sG{k:yM}(hsz:arr.size=k.size)(hl:k.base+cs.length<=k.size)(o5:∀ (i:Nat) (x:AV),cs[i]?=some x->∃ v,arr[k.base+i]?=some v/\VR w0 μ x v):cj w0 μ cs (bG arr k.base cs.length):=by
 refine ⟨(jU (by omega)).symm,fun i x v hx hv=>?_⟩;have hi:=(fR.1 hx).1;rw [eL hi] at hv;obtain ⟨u,h1,h2⟩:=o5 i x hx;rw [h1] at hv;cases hv;exact h2
theorem Dk(hg:Good w0 μ h w){b:Nat}{k:yM}(hk:μ b=some k)(ho:h.get b=some (.cells cs)){el:TypeId}{fr:Nat×Nat}(o1:w.heap[k.c]?=some (.cells arr el fr))(o2:arr.size=k.size)(o4:fr.2<=fr.1)
  {new:List AV} (hn:cj w0 μ new us) {p6:Array Value} (hs:p6.size=arr.size) (hc:∀ (j:Nat) (v:Value),us[j]?=some v->p6[k.base+j]?=some v) (hfit:k.base+new.length<=k.size) {w':World} (hw:xW w' (eS w k.c (.cells p6 el fr))) :
  Good w0 (μ.add h.next ⟨k.c,k.base,k.size⟩) ((h.set b .dead).alloc (.cells new)) w'/\Ext μ h w (μ.add h.next ⟨k.c,k.base,k.size⟩) ((h.set b .dead).alloc (.cells new)) w':=by
 have qS:iV h.bk w0 μ (.cells new) ⟨k.c,k.base,k.size⟩ (some (.cells p6 el fr)):=⟨_,_,_,rfl,by rw [hs,o2],hfit,.inl o4,fun j x hx=>by
  obtain ⟨v,hv,hr⟩:=hn.get hx
  exact ⟨v,hc j v hv,hr⟩⟩
 obtain ⟨g1,g2⟩:=hg.renew hk ho (by simp) k.base (.cells new) _ qS;exact ⟨g1.same hw.heap hw.os hw.tape hw.output,⟨g2.mono,fun i hi hne=>by rw [hw.heap];exact g2.frame i hi hne,g2.new,by rw [hw.heap];exact g2.size,g2.next,g2.wI,g2.fresh,fun c vs hc=>g2.nY c vs hc⟩⟩
theorem fresh(hg:Good w0 μ h w){new:List AV}{us:List Value}(hn:cj w0 μ new us){row:Array Value}{ty:TypeId}(hc:∀ (j:Nat) (v:Value),us[j]?=some v->row[j]?=some v){w':World}(hw:xW w' (w.alloc (.cells row ty))) :
  Good w0 (μ.add h.next ⟨w.heap.size,0,row.size⟩) (h.alloc (.cells new)) w'/\Ext μ h w (μ.add h.next ⟨w.heap.size,0,row.size⟩) (h.alloc (.cells new)) w':=by
 have hl:new.length<=row.size:=by
  rcases Nat.lt_or_ge row.size new.length with h1|h1
  ·have h2:row.size<us.length:=by rw [<- hn.len];exact h1
   have h3:=hc _ _ (fc h2);have:=(Array.getElem?_eq_some_iff.1 h3).1;omega
  ·exact h1
 have qS:iV h.bk w0 μ (.cells new) ⟨w.heap.size,0,row.size⟩ (some (.cells row ty)):=⟨_,_,_,rfl,rfl,by show 0+new.length<=row.size;omega,.inl (dR _),fun j x hx=>by
  obtain ⟨v,hv,hr⟩:=hn.get hx;refine ⟨v,?_,hr⟩;show row[0+j]?=some v
  rw [Nat.zero_add];exact hc j v hv⟩
 obtain ⟨g1,g2⟩:=hg.alloc (.cells new) _ _ qS;exact ⟨g1.same hw.heap hw.os hw.tape hw.output,⟨g2.mono,fun i hi hne=>by rw [hw.heap];exact g2.frame i hi hne,g2.new,by rw [hw.heap];exact g2.size,g2.next,g2.wI,g2.fresh,fun c vs hc=>g2.nY c vs hc⟩⟩
theorem cj.split(hv:cj w0 μ cs us)(i j:Nat):cj w0 μ (cs.take i++cs.drop j) (us.take i++us.drop j):=(hv.take i).append (hv.drop j)
theorem cj.JF(hv:cj w0 μ cs us)(i:Nat){x:AV}{v:Value}(hx:VR w0 μ x v):cj w0 μ (cs.take i++x :: cs.drop i) (us.take i++v :: us.drop i):=(hv.take i).append (.cons hx (hv.drop i))
end
theorem wQ{P:Program}{fd:FuncId}(he:Enters P fd)(hd:AB P fd)(args:List AV)(h:Heap)(K:Out->Heap->Bool)(hK:p7 args h K=true) :
  Enters P fd/\∀ (w0:World) (μ:Mu) (w:World) (vs:List Value),Good w0 μ h w->cj w0 μ args vs->Calls P fd vs.toArray w (qU w0 μ h w K):=by
 refine ⟨he,fun w0 μ w vs hg hv=>?_⟩;unfold p7 at hK;split at hK
 case h_2=>cases hK
 rename_i b n i j;obtain ⟨v1,us,rfl,h1,FC⟩:=hv.cons_inv;clear hv;obtain ⟨v2,us,rfl,h2,Jw⟩:=FC.cons_inv;clear FC;obtain ⟨v3,us,rfl,h3,Lx⟩:=Jw.cons_inv;clear Jw;obtain rfl:=Lx.ee;clear Lx;cases h2;cases h3;cases h1;rename_i cap a k hk hc ha;split at hK
 case h_2=>cases hK
 rename_i cs ho;simp only [and_eq_true,not_eq_true'] at hK;obtain ⟨Jf,k1,k2,k3,k4,k5,hK⟩:=hK;have k1:=eq_of_beq_eq_true k1;have k2:=le_of_ble_eq_true k2;have k3:=le_of_ble_eq_true k3;have k4:=le_of_ble_eq_true k4;obtain ⟨arr,el,fr,o1,o2,o3,o4,o5⟩:=hg.obj b k _ hk ho;replace o4:=o4.resolve_right fun e=>by rw [Jf] at e;cases e.1
 have JG:=sG o2 o3 o5;rw [k1] at JG o3;have h0:cap≠0:=by omega
 obtain ⟨rfl,hfit⟩:=ha h0;have nw:=JG.l9 k5;refine Calls.mono (hd k.c arr el fr (k.base+0) n cap i j w o1 o4 (by omega) hc (by omega) k3 k4 (by rw [Nat.add_zero];exact nw)) fun e w' hR=>?_;obtain ⟨rfl,p6,q1,q2,q3⟩:=hR;rw [Nat.add_zero] at q2;have hsp:=JG.split i j;have hlen:(cs.take i++cs.drop j).length=n-(j-i):=by simp;omega
 obtain ⟨g1,g2⟩:=Dk hg hk ho o1 o2 o4 hsp q1 q2 (by rw [hlen];omega) q3;refine ⟨_,_,_,hK,?_,g1,g2⟩;exact .slice h.next 0 (n-(j-i)) 1 cap _ ⟨k.c,k.base,k.size⟩ (Mu.add_same _ _ _) (by omega) (fun _=>⟨rfl,hfit⟩)
theorem wR{P:Program}{fi:FuncId}(he:Enters P fi)(hd:AD P fi)(args:List AV)(h:Heap)(K:Out->Heap->Bool)(hK:lf args h K=true) :
  Enters P fi/\∀ (w0:World) (μ:Mu) (w:World) (vs:List Value),Good w0 μ h w->cj w0 μ args vs->Calls P fi vs.toArray w (qU w0 μ h w K):=by
 refine ⟨he,fun w0 μ w vs hg hv=>?_⟩;unfold lf at hK;split at hK
 case h_2=>cases hK
 rename_i s i vb;obtain ⟨v1,us,rfl,h1,FC⟩:=hv.cons_inv;clear hv;obtain ⟨v2,us,rfl,h2,Jw⟩:=FC.cons_inv;clear FC;obtain ⟨v3,us,rfl,h3,Lx⟩:=Jw.cons_inv;clear Jw;obtain rfl:=Lx.ee;clear Lx;cases h2;cases h3;rename_i vc av kv JH hvc Rc;split at hK
 case h_2=>cases hK
 rename_i x hx;rw [and_eq_true,and_eq_true,not_eq_true'] at hK;obtain ⟨⟨Jf,nw⟩,hK⟩:=hK;obtain ⟨rfl,hvfit⟩:=Rc (by omega);obtain ⟨arr2,el2,fr2,r1,r2,r3,r4,r5⟩:=hg.obj vb kv _ JH hx;replace r4:=r4.resolve_right fun e=>by rw [Jf] at e;cases e.1
 obtain ⟨xv,x1,x2⟩:=r5 0 x rfl;rw [Nat.add_zero] at x1;have x3:=x2.CU nw;split at hK
 ·
  cases h1;rw [and_eq_true] at hK;obtain ⟨k0,hK⟩:=hK;obtain rfl:=eq_of_beq_eq_true k0;refine Calls.mono (hd.nil kv.c arr2 el2 fr2 (kv.base+0) vc xv w r1 r4 hvc (by omega) x1 x3) fun e w' hR=>?_;obtain ⟨cap,row,ty,q1,rfl,q2,q3,q4⟩:=hR
  obtain ⟨g1,g2⟩:=fresh hg (new:=[x]) (us:=[xv]) (.cons x2 .nil) (row:=row) (ty:=ty) (fun j v hj=>by
   cases j with
   |zero=>simp at hj;subst hj;exact q3
   |succ j=>simp at hj) q4
  refine ⟨_,_,_,hK,?_,g1,g2⟩;exact .slice h.next 0 1 1 cap _ ⟨w.heap.size,0,row.size⟩ (Mu.add_same _ _ _) q1 (fun _=>⟨rfl,by show 0+0+cap*1<=row.size;omega⟩)
 ·rename_i b n;cases h1;rename_i cap a k hk hc ha;split at hK
  case h_2=>cases hK
  rename_i cs ho;simp only [and_eq_true,not_eq_true'] at hK;obtain ⟨k0,k1,kn,k2,k4,k5,hK⟩:=hK;have k1:=eq_of_beq_eq_true k1;have kn:=le_of_ble_eq_true kn;have k2:=le_of_ble_eq_true k2;have k4:=le_of_ble_eq_true k4;have Nv:b≠vb:=fun e=>by rw [e] at k0;simp at k0
  obtain ⟨arr,el,fr,o1,o2,o3,o4,o5⟩:=hg.obj b k _ hk ho;replace o4:=o4.resolve_right fun e=>by rw [Jf] at e;cases e.1
  have JG:=sG o2 o3 o5;rw [k1] at JG o3;obtain ⟨rfl,hfit⟩:=ha (by omega);have LA:=JG.l9 k5;have hne:k.c≠kv.c:=fun e=>Nv (hg.inj b vb k kv _ _ hk JH ho hx (by simp) (by simp) e);have hsp:=JG.JF i x2;have hlen:(cs.take i++x :: cs.drop i).length=n+1:=by simp;omega
  refine Calls.mono (hd.row k.c kv.c arr arr2 el el2 fr fr2 (k.base+0) n cap i (kv.base+0) vc xv w o1 o4 r1 r4 hne (by omega) hc hvc (by omega) x1 k2 k4 (by rw [Nat.add_zero];exact LA) x3) fun e w' hR=>?_;rcases hR with ⟨hroom,rfl,p6,q1,q2,q3⟩|⟨wN,row,ty,q1,rfl,q2,q3,q4⟩
  ·rw [Nat.add_zero] at q2;obtain ⟨g1,g2⟩:=Dk hg hk ho o1 o2 o4 hsp q1 q2 (by rw [hlen];omega) q3;refine ⟨_,_,_,hK,?_,g1,g2⟩;exact .slice h.next 0 (n+1) 1 cap _ ⟨k.c,k.base,k.size⟩ (Mu.add_same _ _ _) hroom (fun _=>⟨rfl,hfit⟩)
  ·rw [Nat.add_zero] at q3;have M5:Good w0 μ (h.set b .dead) w:=hg.kill hk;obtain ⟨g1,g2⟩:=fresh M5 hsp q3 q4;refine ⟨_,_,_,hK,?_,g1,(Ext.kill hk).trans g2⟩;exact .slice h.next 0 (n+1) 1 wN _ ⟨w.heap.size,0,row.size⟩ (Mu.add_same _ _ _) q1 (fun _=>⟨rfl,by show 0+0+wN*1<=row.size;omega⟩)
 ·cases hK
end
end Go.AM