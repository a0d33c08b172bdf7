/- slices.Sorted over maps.Keys, keys of a string's kind, as contracts of the abstract machine. Conditions: the kit's contracts on the two functions at the program. -/
import Derived.Test.YtfdanacohcffmaaGreatKp9
import Derived.CallsIn
import Derived.Sort.KeysCollected
import Derived.Maps.Own
import Derived.StringKeys
set_option linter.unusedSimpArgs false
set_option linter.unusedVariables false
namespace Go.AM
open List Nat Bool Option
open Go Go.RowKit Go.MapKept
open Go.Proofs (encStr)
noncomputable section
def Rs(s:List UInt8):List (List UInt8)->List (List UInt8)
 |[]=>[s]
 |t :: ts=>if leB s t then s :: t :: ts else t :: Rs s ts
def u6:List (List UInt8)->List (List UInt8)
 |[]=>[]
 |s :: ss=>Rs s (u6 ss)
def keyBytes:Entry->List UInt8
 |(.str s,_,_)=>s
 |_=>[]
def isStr:AV->Bool
 |.str s=>ble s.length 140737488351232
 |_=>false
def vV(ck:Nat):List Entry->Bool
 |[]=>true
 |e :: es=>isStr e.1&&(ble (e.2.2+1) ck&&(es.all (fun f=>!(keyBytes e==keyBytes f)&&!(Nat.beq e.2.2 f.2.2))&&vV ck es))
def Th(fi:FuncId):List AV->Heap->(Out->Heap->Bool)->Bool:=fun args h K=>
 match args with
 |[.map m]=>K (.ret (.func fi [] [.ptr h.next 0])) (h.alloc (.box (.map m)))
 |[.mH]=>K (.ret (.func fi [] [.ptr h.next 0])) (h.alloc (.box .mH))
 |_=>false
def Zn(h:Heap)(K:Out->Heap->Bool):List (List UInt8)->Bool
 |[]=>K (.ret .ai) h
 |k :: ks=>K (.ret (.slice h.next 0 (ks.length+1) 1)) (h.alloc (.cells ((k :: ks).map .str)))
def zJ(fi:FuncId):List AV->Heap->(Out->Heap->Bool)->Bool:=fun args h K=>
 match args with
 |[.func f [] [.ptr b 0]]=>Nat.beq f fi&&(match h.get b with
  |some (.box (.map m))=>(match h.get m with
   |some (.map es ck)=>vV ck es&&(ble (es.length*16) 140737488355328&&Zn h K (u6 (es.map keyBytes)))
   |_=>false)
  |some (.box .mH)=>K (.ret .ai) h
  |_=>false)
 |_=>false
theorem Dw(s:List UInt8):∀ l,(Rs s l).Perm (s :: l)
 |[]=>.refl _
 |t :: ts=>by
  unfold Rs;split
  ·exact .refl _
  ·exact ((Dw s ts).cons t).trans (.swap s t ts)
theorem tu:∀ l,(u6 l).Perm l
 |[]=>.refl _
 |s :: ss=>(Dw s _).trans ((tu ss).cons s)
theorem KL:∀ a b c:List UInt8,leB a b=true->leB b c=true->leB a c=true:=fun a b c h1 h2=>by
 simp only [leB,decide_eq_true_eq] at *;exact List.le_trans h1 h2
theorem KM:∀ a b:List UInt8,leB a b=true\/leB b a=true:=fun a b=>by
 simp only [leB,decide_eq_true_eq];exact List.le_total a b
theorem ES(s:List UInt8):∀ l,l.Pairwise (fun a b=>leB a b=true)->(Rs s l).Pairwise (fun a b=>leB a b=true)
 |[],_=>by simp [Rs]
 |t :: ts,h=>by
  unfold Rs;rw [pairwise_cons] at h;split
  ·rename_i hs;rw [pairwise_cons,pairwise_cons];refine ⟨fun b hb=>?_,h.1,h.2⟩;rcases mem_cons.1 hb with rfl|hb
   ·exact hs
   ·exact KL _ _ _ hs (h.1 b hb)
  ·rename_i hs;rw [pairwise_cons];refine ⟨fun b hb=>?_,ES s ts h.2⟩;rcases mem_cons.1 ((Dw s ts).mem_iff.1 hb) with rfl|hb
   ·exact (KM t b).resolve_right hs
   ·exact h.1 b hb
theorem vW:∀ l,(u6 l).Pairwise (fun a b=>leB a b=true)
 |[]=>.nil
 |s :: ss=>ES s _ (vW ss)
theorem WI{l ss:List (List UInt8)}(h:ss.Perm l):ss.mergeSort leB=u6 l:=by
 have to:∀ a b:List UInt8,(leB a b||leB b a)=true:=fun a b=>by simpa using KM a b
 refine List.Perm.eq_of_pairwise (le:=fun a b=>leB a b=true) (fun a b _ _ h1 h2=>?_) (pairwise_mergeSort KL to ss) (vW l) (((mergeSort_perm ss leB).trans h).trans (tu l).symm);simp only [leB,decide_eq_true_eq] at h1 h2;exact List.le_antisymm h1 h2
section
variable {P:Program} {w0 w:World} {μ:Mu} {h:Heap}
theorem Good.later(hg:Good w0 μ h w){w':World}(hb:Below w.heap.size w w'):Good w0 μ h w'/\Ext μ h w μ h w':=by
 refine ⟨⟨hg.below.trans (hb.mono hg.below.size),hg.clean,hg.fresh,fun b k hk=>?_,hg.xW (fun c vs hc=>hb.block c (hg.GP hc)),hg.apart,fun b k o hk ho=>?_,hg.inj⟩,⟨Mu.le.refl μ,fun k hk _=>hb.block k hk,fun _ _ h=>.inl h,hb.size,dK _,fun _ _ _=>rfl,fun _ _ h=>.inl h,fun _ _ h=>.inl h⟩⟩
 ·have:=hg.own b k hk;have:=hb.size;omega
 ·rw [hb.block _ (hg.own b k hk).2];exact hg.obj b k o hk ho
theorem Good.take(hg:Good w0 μ h w){w':World}(hb:Below w.heap.size w w'){g n:Nat}(YB:w.heap.size<=g)(hlt:g<w'.heap.size)(o:mI)(hr:rZ w0 μ o ⟨g,0,n⟩ (w'.heap[g]?)) :
  Good w0 (μ.add h.next ⟨g,0,n⟩) (h.alloc o) w'/\Ext μ h w (μ.add h.next ⟨g,0,n⟩) (h.alloc o) w':=by
 obtain ⟨g1,x1⟩:=hg.later hb;have hm:μ.le (μ.add h.next ⟨g,0,n⟩):=Mu.Dg hg.Cb;refine ⟨⟨g1.below,Heap.N7 hg.clean o,fun b k hk=>?_,fun b k hk=>?_,g1.Ad,hg.zw (k:=⟨g,0,n⟩) (by cases hz:μ.z g with|none=>rfl|some vs=>have:=hg.GP hz;omega),fun b k o' hk ho=>?_,fun b1 b2 k1 k2 o1 o2 h1 h2 e1 e2 n1 n2 hc=>?_⟩,⟨hm,x1.frame,fun b k hk=>?_,x1.size,le_succ _,fun b gN _=>by rw [Heap.aN,if_neg (by omega)],fun b k hk=>?_,fun _ _ h=>.inl h⟩⟩
 ·rw [Mu.mo] at hk;by_cases e:b=h.next
  ·subst e;simp
  ·rw [if_neg e] at hk;have:=hg.fresh b k hk;simp;omega
 ·rw [Mu.mo] at hk;by_cases e:b=h.next
  ·rw [if_pos e] at hk;cases hk;exact ⟨Nat.le_trans hg.below.size YB,hlt⟩
  ·rw [if_neg e] at hk;exact g1.own b k hk
 ·rw [Mu.mo] at hk;rw [Heap.aN] at ho;by_cases e:b=h.next
  ·rw [if_pos e] at hk ho;cases hk;cases ho;exact hr.mono hm
  ·rw [if_neg e] at hk ho;exact (g1.obj b k o' hk ho).mono hm
 ·rw [Mu.mo] at h1 h2;rw [Heap.aN] at e1 e2;by_cases q1:b1=h.next
  ·by_cases q2:b2=h.next
   ·omega
   ·rw [if_pos q1] at h1;rw [if_neg q2] at h2;cases h1;have:=(hg.own b2 k2 h2).2;simp at hc;omega
  ·by_cases q2:b2=h.next
   ·rw [if_neg q1] at h1;rw [if_pos q2] at h2;cases h2;have:=(hg.own b1 k1 h1).2;simp at hc;omega
   ·rw [if_neg q1] at h1 e1;rw [if_neg q2] at h2 e2;exact hg.inj b1 b2 k1 k2 o1 o2 h1 h2 e1 e2 n1 n2 hc
 ·rw [Mu.mo] at hk;by_cases e:b=h.next
  ·rw [if_pos e] at hk;cases hk;exact .inr (.inl YB)
  ·rw [if_neg e] at hk;exact .inl hk
 ·rw [Mu.mo] at hk;by_cases e:b=h.next
  ·exact .inr (by omega)
  ·rw [if_neg e] at hk;exact .inl hk
def KN(P:Program)(fk fi:FuncId)(tm:TypeId):Prop:=∀ (mb:Option Nat) (W:World),Calls P fk #[.map mb] W fun e w'=>e = .returned (.func (.func fi) #[] #[.pointer (some ⟨W.heap.size,0,none⟩)])/\w'=W.alloc (.cells #[.map mb] tm)
theorem Og{fk fi:FuncId}{tm:TypeId}(he:Enters P fk)(hk:KN P fk fi tm)(args:List AV)(h:Heap)(K:Out->Heap->Bool)(hK:Th fi args h K=true) :
  Enters P fk/\∀ (w0:World) (μ:Mu) (w:World) (vs:List Value),Good w0 μ h w->fA w0 μ args vs->Calls P fk vs.toArray w (Dm w0 μ h w K):=by
 refine ⟨he,fun w0 μ w vs hg hv=>?_⟩
 have key:∀ (x:AV) (mb:Option Nat),VR w0 μ x (.map mb)->K (.ret (.func fi [] [.ptr h.next 0])) (h.alloc (.box x))=true->Calls P fk #[.map mb] w (Dm w0 μ h w K):=by
  intro x mb hx hKx;refine Calls.mono (hk mb w) fun e w' hR=>?_;obtain ⟨rfl,rfl⟩:=hR;obtain ⟨g1,g2⟩:=hg.alloc (.box x) (.cells #[.map mb] tm) 1 ⟨rfl,_,_,rfl,hx⟩;have hp:VR w0 (μ.add h.next ⟨w.heap.size,0,1⟩) (.ptr h.next 0) (.pointer (some ⟨w.heap.size,0,none⟩)):=.ptr h.next 0 ⟨w.heap.size,0,1⟩ (Mu.add_same _ _ _)
  have hl:=fA.cons hp .nil;exact ⟨_,_,_,hKx,.func fi [] [.ptr h.next 0] [] [.pointer (some ⟨w.heap.size,0,none⟩)] rfl rfl (by simp) hl.rel,g1,g2⟩
 unfold Th at hK;split at hK
 ·obtain ⟨v,us,rfl,h1,h2⟩:=hv.cons_inv;obtain rfl:=h2.jE;cases h1;rename_i k hkk;exact key _ (some k.c) (.map _ k hkk) hK
 ·obtain ⟨v,us,rfl,h1,h2⟩:=hv.cons_inv;obtain rfl:=h2.jE;cases h1;exact key _ none .mH hK
 ·cases hK
def ET(P:Program)(fs fi:FuncId)(tk:TypeId):Prop:=
 (∀ (Bm b nn:Nat) (D0:DataW Unit) (w:World),Bm<w.heap.size->w.cell? ⟨Bm,0,none⟩=some (.map (some b))->w.ownsMap P tk (fun _=>some (.nil,[])) b nn D0->Maps.size D0<=maxLen->Maps.size D0*16<=140737488355328 ->
  Calls P fs #[.func (.func fi) #[] #[.pointer (some ⟨Bm,0,none⟩)]] w fun e w'=>∃ (v:Value) (ss:List (List UInt8)),e = .returned v/\ss.Perm (strKeys D0)/\w'.ownsRow w.heap.size tk 1 v ss.length ((ss.mergeSort leB).map encStr)/\(v = .slice none 0 0↔ss = [])/\Below w.heap.size w w') /\
 (∀ (Bm:Nat) (w:World),Bm<w.heap.size->w.cell? ⟨Bm,0,none⟩=some (.map none) ->
  Calls P fs #[.func (.func fi) #[] #[.pointer (some ⟨Bm,0,none⟩)]] w fun e w'=>e = .returned (.slice none 0 0)/\Below w.heap.size w w')
theorem EU{ck:Nat}:∀ {es:List Entry},vV ck es=true->(∀ e ∈ es,(∃ s,e.1 = .str s/\s.length<=140737488351232)/\e.2.2<ck)/\es.Pairwise (fun e f=>keyBytes e≠keyBytes f/\e.2.2≠f.2.2)
 |[],_=>⟨by simp,.nil⟩
 |e :: es,h=>by
  simp only [vV,and_eq_true,List.all_eq_true,not_eq_true'] at h;obtain ⟨h1,h2,h3,h4⟩:=h;obtain ⟨i1,i2⟩:=EU h4;refine ⟨fun f hf=>?_,?_⟩
  ·rcases mem_cons.1 hf with rfl|hf
   ·refine ⟨?_,le_of_ble_eq_true h2⟩;unfold isStr at h1;split at h1
    ·rename_i s hs;exact ⟨s,hs,le_of_ble_eq_true h1⟩
    ·cases h1
   ·exact i1 f hf
  ·rw [pairwise_cons];refine ⟨fun f hf=>?_,i2⟩;obtain ⟨a,b⟩:=h3 f hf;exact ⟨fun q=>by rw [q] at a;simp at a,ne_of_beq_eq_false b⟩
theorem Uw{tk:TypeId}(hk:P.underlying tk=some .string){c:Nat}{es:List Entry}{ju:Array MapEntry}{ck:Nat}(hb:w.heap[c]?=some (.map ju ck))(he:rA w0 μ es ju.toList)(mP:vV ck es=true)(hsz:es.length*16<=140737488355328) :
  ∃ D0:DataW Unit,w.ownsMap P tk (fun _=>some (.nil,[])) c ju.size D0/\Maps.size D0=es.length/\(strKeys D0).Perm (es.map keyBytes):=by
 obtain ⟨h1,h2⟩:=EU mP;obtain ⟨L,rfl,Mb,hL⟩:=rA.ya _ _ he
 have adK:∀ p ∈ L,∃ s:ByteArray,p.2.key = .string s/\keyBytes p.1=s.data.toList/\s.size<=maxLen:=fun p hp=>by
  obtain ⟨⟨s,hs,hl⟩,_⟩:=h1 p.1 (mem_map.2 ⟨p,hp,rfl⟩);have hv:=(hL p hp).1;rw [hs] at hv;obtain ⟨b,hb,rfl⟩:=hv.jF;refine ⟨b,hb,?_,?_⟩
  ·obtain ⟨⟨k,v,n⟩,q⟩:=p;simp only at hs;subst hs;rfl
  ·have:b.data.toList.length=b.size:=by rw [Array.length_toList];rfl
   unfold maxLen;omega
 have hrg:∀ p ∈ L,WideElems.rd (H:=Unit) P tk (fun _=>some (.nil,[])) p.2=some (.string (keyBytes p.1),.nil):=fun p hp=>by
  obtain ⟨s,a,b,d⟩:=adK p hp;simp [WideElems.rd,a,WideMaps.keyOf_string_mk hk d,b]
 have hlen:ju.size=L.length:=by rw [<- Array.length_toList,Mb];simp
 have Oh:ju.toList.map (WideElems.rg (H:=Unit) P tk (fun _=>some (.nil,[])))=L.map fun p=>(.string (keyBytes p.1),.nil):=by
  rw [Mb,List.map_map];exact map_congr_left fun p hp=>by simp [WideElems.rg,hrg p hp]
 refine ⟨_,⟨ju,ck,hb,⟨?_,⟨fun x hx=>?_,?_,?_⟩,fun x hx=>?_⟩,dK _,rfl⟩,?_,?_⟩
 ·simp at hsz;unfold maxLen;omega
 ·rw [Mb,mem_map] at hx;obtain ⟨p,hp,rfl⟩:=hx;have:=(h1 p.1 (mem_map.2 ⟨p,hp,rfl⟩)).2;rw [(hL p hp).2.2];exact this
 ·rw [Mb,List.map_map];rw [pairwise_map] at h2;refine pairwise_map.2 (h2.imp_of_mem fun {a b} ha gN rO q=>rO.2 ?_);simp only [Function.comp] at q;rw [<- (hL a ha).2.2,<- (hL b gN).2.2];exact q
 ·rw [Mb,List.map_map];rw [pairwise_map] at h2;refine pairwise_map.2 (h2.imp_of_mem fun {a b} ha gN rO q=>rO.1 ?_);simp only [Function.comp] at q;obtain ⟨s,a1,a2,_⟩:=adK a ha;obtain ⟨s',b1,b2,_⟩:=adK b gN;rw [a1,b1] at q;cases q;rw [a2,b2]
 ·rw [Mb,mem_map] at hx;obtain ⟨p,hp,rfl⟩:=hx;exact ⟨_,hrg p hp⟩
 ·rw [Oh];rw [Maps.size_eq,length_sorted];simp
 ·rw [Oh];show ((foldr DataW.insert [] (L.map fun p=>(Lit.string (keyBytes p.1),(DataW.nil:DataW Unit)))).map fun p=>strOf p.1).Perm _;refine ((WideShapes.sorted_perm _).map _).trans ?_;rw [List.map_map,List.map_map];exact .refl _
theorem WJ{μ:Mu}(ss:List (List UInt8)):fA w0 μ (ss.map .str) (ss.map encStr):=fA.map ss fun s _=>by
 have:=VR.str (w0:=w0) (μ:=μ) ⟨s.toArray⟩;simpa [encStr] using this
theorem JA{fs fi:FuncId}{tk:TypeId}(he:Enters P fs)(hk:P.underlying tk=some .string)(hs:ET P fs fi tk)(args:List AV)(h:Heap)(K:Out->Heap->Bool)(hK:zJ fi args h K=true) :
  Enters P fs/\∀ (w0:World) (μ:Mu) (w:World) (vs:List Value),Good w0 μ h w->fA w0 μ args vs->Calls P fs vs.toArray w (Dm w0 μ h w K):=by
 refine ⟨he,fun w0 μ w vs hg hv=>?_⟩;unfold zJ at hK;split at hK
 ·rename_i f b;obtain ⟨v,us,rfl,h1,h2⟩:=hv.cons_inv;obtain rfl:=h2.jE;simp only [and_eq_true] at hK;obtain ⟨hf,hK⟩:=hK;obtain rfl:=eq_of_beq_eq_true hf;cases h1;rename_i as bs l1 r1 l2 r2;obtain rfl:as = []:=eq_nil_of_length_eq_zero (by simpa using l1.symm);obtain ⟨pv,bs',rfl,p1,p2⟩:=(fA.mk l2 r2).cons_inv;obtain rfl:=p2.jE;cases p1;rename_i k hkk;split at hK
  ·rename_i m hbo;obtain ⟨k0,bv,be,b1,b2⟩:=hg.obj b k _ hkk hbo;split at hK
   ·rename_i es ck hmo;simp only [and_eq_true] at hK;obtain ⟨q1,q2,q3⟩:=hK;cases b2;rename_i km hkm;obtain ⟨ju,c1,c2⟩:=hg.map hkm hmo;have hsz:=le_of_ble_eq_true q2;obtain ⟨D0,d1,d2,d3⟩:=Uw hk c1 c2 q1 hsz;have hcell:w.cell? ⟨k.c,k.base+0,none⟩=some (.map (some km.c)):=by rw [k0];simp [World.cell?,b1]
    rw [k0] at hcell;simp only [k0,Nat.zero_add];refine Calls.mono (hs.1 k.c km.c _ D0 w (hg.own b k hkk).2 hcell d1 (by rw [d2];unfold maxLen;omega) (by rw [d2];exact hsz)) fun e w' hR=>?_;obtain ⟨v,ss,rfl,s1,s2,s3,s4⟩:=hR;have u7:=WI (s1.trans d3);rw [u7] at s2;have hlen:(u6 (es.map keyBytes)).length=ss.length:=((tu _).trans (s1.trans d3).symm).length_eq;obtain ⟨o1,o2⟩:=s2;generalize hq:u6 (es.map keyBytes)=sk at *
    cases sk with
    |nil=>
     have:ss = []:=eq_nil_of_length_eq_zero (by simpa using hlen.symm);obtain rfl:=s3.2 this;obtain ⟨g1,x1⟩:=hg.later s4;exact ⟨.ai,h,μ,q3,.ai,g1,x1⟩
    |cons kk ks=>
     rcases o2 with ⟨rfl,h0⟩|⟨g,cap,cur,rfl,YB,hgb,Ql,hc2,hc3,hc4⟩
     ·simp at hlen;omega
     ·have hgl:g<w'.heap.size:=(Array.getElem?_eq_some_iff.1 hgb).1;have mZ:=WJ (w0:=w0) (μ:=μ) (kk :: ks)
      have Dk:rZ w0 μ (.cells ((kk :: ks).map .str)) ⟨g,0,cap⟩ (w'.heap[g]?):=by
       refine ⟨cur,tk,(0,0),hgb,by simpa using hc3,?_,.inl (dK _),fun i x hx=>?_⟩
       ·simp only [length_map,hlen];omega
       ·obtain ⟨u,hu,hr⟩:=mZ.get hx;refine ⟨u,?_,hr⟩;rw [<- hc4,getElem?_take] at hu;split at hu
        ·rw [Nat.zero_add,<- Array.getElem?_toList];exact hu
        ·cases hu
      obtain ⟨g1,x1⟩:=hg.take s4 YB hgl _ Dk;refine ⟨_,_,_,q3,?_,g1,x1⟩;have WG:ks.length+1=ss.length:=by simpa using hlen
      rw [WG];exact .slice h.next 0 ss.length 1 cap ⟨g,0,none⟩ ⟨g,0,cap⟩ (Mu.add_same _ _ _) Ql (fun _=>⟨rfl,by simp⟩)
   ·cases hK
  ·rename_i hbo;obtain ⟨k0,bv,be,b1,b2⟩:=hg.obj b k _ hkk hbo;cases b2;have hcell:w.cell? ⟨k.c,0,none⟩=some (.map none):=by simp [World.cell?,b1]
   simp only [k0,Nat.zero_add];refine Calls.mono (hs.2 k.c w (hg.own b k hkk).2 hcell) fun e w' hR=>?_;obtain ⟨rfl,s4⟩:=hR;obtain ⟨g1,x1⟩:=hg.later s4;exact ⟨.ai,h,μ,hK,.ai,g1,x1⟩
  ·cases hK
 ·cases hK
end
end
end Go.AM