/- slices.Sorted over maps.Keys, keys of a string's kind, as contracts of the abstract machine. Conditions: the kit's contracts on the two functions at the program. -/
import Derived.Test.YthmbnnjimbjplaaGreatDoorTu8
import Derived.CallsIn
import Derived.Sort.KeysCollected
import Derived.Maps.Own
import Derived.StringKeys
set_option linter.unusedSimpArgs false
set_option linter.unusedVariables false
namespace Go.AM
open List Nat Bool Option
open Go Go.RowKit Go.MapKept
open Go.Proofs (encStr)
noncomputable section
def Cf(s:List UInt8):List (List UInt8)->List (List UInt8)
 |[]=>[s]
 |t :: ts=>if leB s t then s :: t :: ts else t :: Cf s ts
def kE:List (List UInt8)->List (List UInt8)
 |[]=>[]
 |s :: ss=>Cf s (kE ss)
def keyBytes:Entry->List UInt8
 |(.str s,_,_)=>s
 |_=>[]
def isStr:AV->Bool
 |.str s=>ble s.length 140737488351232
 |_=>false
def lp(ck:Nat):List Entry->Bool
 |[]=>true
 |e :: es=>isStr e.1&&(ble (e.2.2+1) ck&&(es.all (fun f=>!(keyBytes e==keyBytes f)&&!(Nat.beq e.2.2 f.2.2))&&lp ck es))
def AE(fi:FuncId):List AV->Heap->(Out->Heap->Bool)->Bool:=fun args h K=>
 match args with
 |[.map m]=>K (.ret (.func fi [] [.ptr h.next 0])) (h.alloc (.box (.map m)))
 |[.dI]=>K (.ret (.func fi [] [.ptr h.next 0])) (h.alloc (.box .dI))
 |_=>false
def Hq(h:Heap)(K:Out->Heap->Bool):List (List UInt8)->Bool
 |[]=>K (.ret .aE) h
 |k :: ks=>K (.ret (.slice h.next 0 (ks.length+1) 1)) (h.alloc (.cells ((k :: ks).map .str)))
def jV(fi:FuncId):List AV->Heap->(Out->Heap->Bool)->Bool:=fun args h K=>
 match args with
 |[.func f [] [.ptr b 0]]=>Nat.beq f fi&&(match h.get b with
  |some (.box (.map m))=>(match h.get m with
   |some (.map es ck)=>lp ck es&&(ble (es.length*16) 140737488355328&&Hq h K (kE (es.map keyBytes)))
   |_=>false)
  |some (.box .dI)=>K (.ret .aE) h
  |_=>false)
 |_=>false
theorem ri(s:List UInt8):∀ l,(Cf s l).Perm (s :: l)
 |[]=>.refl _
 |t :: ts=>by
  unfold Cf;split
  ·exact .refl _
  ·exact ((ri s ts).cons t).trans (.swap s t ts)
theorem iH:∀ l,(kE l).Perm l
 |[]=>.refl _
 |s :: ss=>(ri s _).trans ((iH ss).cons s)
theorem xX:∀ a b c:List UInt8,leB a b=true->leB b c=true->leB a c=true:=fun a b c h1 h2=>by
 simp only [leB,decide_eq_true_eq] at *;exact List.le_trans h1 h2
theorem xY:∀ a b:List UInt8,leB a b=true\/leB b a=true:=fun a b=>by
 simp only [leB,decide_eq_true_eq];exact List.le_total a b
theorem sH(s:List UInt8):∀ l,l.Pairwise (fun a b=>leB a b=true)->(Cf s l).Pairwise (fun a b=>leB a b=true)
 |[],_=>by simp [Cf]
 |t :: ts,h=>by
  unfold Cf;rw [pairwise_cons] at h;split
  ·rename_i hs;rw [pairwise_cons,pairwise_cons];refine ⟨fun b hb=>?_,h.1,h.2⟩;rcases mem_cons.1 hb with rfl|hb
   ·exact hs
   ·exact xX _ _ _ hs (h.1 b hb)
  ·rename_i hs;rw [pairwise_cons];refine ⟨fun b hb=>?_,sH s ts h.2⟩;rcases mem_cons.1 ((ri s ts).mem_iff.1 hb) with rfl|hb
   ·exact (xY t b).resolve_right hs
   ·exact h.1 b hb
theorem lu:∀ l,(kE l).Pairwise (fun a b=>leB a b=true)
 |[]=>.nil
 |s :: ss=>sH s _ (lu ss)
theorem FI{l ss:List (List UInt8)}(h:ss.Perm l):ss.mergeSort leB=kE l:=by
 have to:∀ a b:List UInt8,(leB a b||leB b a)=true:=fun a b=>by simpa using xY a b
 refine List.Perm.eq_of_pairwise (le:=fun a b=>leB a b=true) (fun a b _ _ h1 h2=>?_) (pairwise_mergeSort xX to ss) (lu l) (((mergeSort_perm ss leB).trans h).trans (iH l).symm);simp only [leB,decide_eq_true_eq] at h1 h2;exact List.le_antisymm h1 h2
section
variable {P:Program} {w0 w:World} {μ:Mu} {h:Heap}
theorem Good.later(hg:Good w0 μ h w){w':World}(hb:Below w.heap.size w w'):Good w0 μ h w'/\Ext μ h w μ h w':=by
 refine ⟨⟨hg.below.trans (hb.mono hg.below.size),hg.clean,hg.fresh,fun b k hk=>?_,hg.mc (fun c vs hc=>hb.block c (hg.uD hc)),hg.apart,fun b k o hk ho=>?_,hg.inj⟩,⟨Mu.le.refl μ,fun k hk _=>hb.block k hk,fun _ _ h=>.inl h,hb.size,dR _,fun _ _ _=>rfl,fun _ _ h=>.inl h,fun _ _ h=>.inl h⟩⟩
 ·have:=hg.own b k hk;have:=hb.size;omega
 ·rw [hb.block _ (hg.own b k hk).2];exact hg.obj b k o hk ho
theorem Good.take(hg:Good w0 μ h w){w':World}(hb:Below w.heap.size w w'){g n:Nat}(GB:w.heap.size<=g)(hlt:g<w'.heap.size)(o:gh)(hr:iV h.bk w0 μ o ⟨g,0,n⟩ (w'.heap[g]?)) :
  Good w0 (μ.add h.next ⟨g,0,n⟩) (h.alloc o) w'/\Ext μ h w (μ.add h.next ⟨g,0,n⟩) (h.alloc o) w':=by
 obtain ⟨g1,x1⟩:=hg.later hb;have hm:μ.le (μ.add h.next ⟨g,0,n⟩):=Mu.qO hg.pE;refine ⟨⟨g1.below,Heap.sE hg.clean o,fun b k hk=>?_,fun b k hk=>?_,g1.uC,hg.mZ (k:=⟨g,0,n⟩) (by cases hz:μ.z g with|none=>rfl|some vs=>have:=hg.uD hz;omega),fun b k o' hk ho=>?_,fun b1 b2 k1 k2 o1 o2 h1 h2 e1 e2 n1 n2 hc=>?_⟩,⟨hm,x1.frame,fun b k hk=>?_,x1.size,le_succ _,fun b dw _=>by rw [Heap.aD,if_neg (by omega)],fun b k hk=>?_,fun _ _ h=>.inl h⟩⟩
 ·rw [Mu.fD] at hk;by_cases e:b=h.next
  ·subst e;simp
  ·rw [if_neg e] at hk;have:=hg.fresh b k hk;simp;omega
 ·rw [Mu.fD] at hk;by_cases e:b=h.next
  ·rw [if_pos e] at hk;cases hk;exact ⟨Nat.le_trans hg.below.size GB,hlt⟩
  ·rw [if_neg e] at hk;exact g1.own b k hk
 ·rw [Mu.fD] at hk;rw [Heap.aD] at ho;by_cases e:b=h.next
  ·rw [if_pos e] at hk ho;cases hk;cases ho;rw [hg.pz hr.gZ];exact hr.mono hm
  ·rw [if_neg e] at hk ho;rw [hg.pz hr.gZ];exact (g1.obj b k o' hk ho).mono hm
 ·rw [Mu.fD] at h1 h2;rw [Heap.aD] at e1 e2;by_cases q1:b1=h.next
  ·by_cases q2:b2=h.next
   ·omega
   ·rw [if_pos q1] at h1;rw [if_neg q2] at h2;cases h1;have:=(hg.own b2 k2 h2).2;simp at hc;omega
  ·by_cases q2:b2=h.next
   ·rw [if_neg q1] at h1;rw [if_pos q2] at h2;cases h2;have:=(hg.own b1 k1 h1).2;simp at hc;omega
   ·rw [if_neg q1] at h1 e1;rw [if_neg q2] at h2 e2;exact hg.inj b1 b2 k1 k2 o1 o2 h1 h2 e1 e2 n1 n2 hc
 ·rw [Mu.fD] at hk;by_cases e:b=h.next
  ·rw [if_pos e] at hk;cases hk;exact .inr (.inl GB)
  ·rw [if_neg e] at hk;exact .inl hk
 ·rw [Mu.fD] at hk;by_cases e:b=h.next
  ·exact .inr (by omega)
  ·rw [if_neg e] at hk;exact .inl hk
def rj(P:Program)(fk fi:FuncId)(tm:TypeId):Prop:=∀ (mb:Option Nat) (W:World),Calls P fk #[.map mb] W fun e w'=>e = .returned (.func (.func fi) #[] #[.pointer (some ⟨W.heap.size,0,none⟩)])/\w'=W.alloc (.cells #[.map mb] tm)
theorem sI{fk fi:FuncId}{tm:TypeId}(he:Enters P fk)(hk:rj P fk fi tm)(args:List AV)(h:Heap)(K:Out->Heap->Bool)(hK:AE fi args h K=true) :
  Enters P fk/\∀ (w0:World) (μ:Mu) (w:World) (vs:List Value),Good w0 μ h w->cj w0 μ args vs->Calls P fk vs.toArray w (qU w0 μ h w K):=by
 refine ⟨he,fun w0 μ w vs hg hv=>?_⟩
 have key:∀ (x:AV) (mb:Option Nat),VR w0 μ x (.map mb)->K (.ret (.func fi [] [.ptr h.next 0])) (h.alloc (.box x))=true->Calls P fk #[.map mb] w (qU w0 μ h w K):=by
  intro x mb hx Re;refine Calls.mono (hk mb w) fun e w' hR=>?_;obtain ⟨rfl,rfl⟩:=hR;obtain ⟨g1,g2⟩:=hg.alloc (.box x) (.cells #[.map mb] tm) 1 ⟨rfl,_,_,rfl,hx⟩;have hp:VR w0 (μ.add h.next ⟨w.heap.size,0,1⟩) (.ptr h.next 0) (.pointer (some ⟨w.heap.size,0,none⟩)):=.ptr h.next 0 ⟨w.heap.size,0,1⟩ (Mu.add_same _ _ _)
  have hl:=cj.cons hp .nil;exact ⟨_,_,_,Re,.func fi [] [.ptr h.next 0] [] [.pointer (some ⟨w.heap.size,0,none⟩)] rfl rfl (by simp) hl.rel,g1,g2⟩
 unfold AE at hK;split at hK
 ·obtain ⟨v,us,rfl,h1,h2⟩:=hv.cons_inv;obtain rfl:=h2.ee;cases h1;rename_i k hkk;exact key _ (some k.c) (.map _ k hkk) hK
 ·obtain ⟨v,us,rfl,h1,h2⟩:=hv.cons_inv;obtain rfl:=h2.ee;cases h1;exact key _ none .dI hK
 ·cases hK
def mB(P:Program)(fs fi:FuncId)(tk:TypeId):Prop:=
 (∀ (Bm b nn:Nat) (D0:DataW Unit) (w:World),Bm<w.heap.size->w.cell? ⟨Bm,0,none⟩=some (.map (some b))->w.ownsMap P tk (fun _=>some (.nil,[])) b nn D0->Maps.size D0<=maxLen->Maps.size D0*16<=140737488355328 ->
  Calls P fs #[.func (.func fi) #[] #[.pointer (some ⟨Bm,0,none⟩)]] w fun e w'=>∃ (v:Value) (ss:List (List UInt8)),e = .returned v/\ss.Perm (strKeys D0)/\w'.ownsRow w.heap.size tk 1 v ss.length ((ss.mergeSort leB).map encStr)/\(v = .slice none 0 0↔ss = [])/\Below w.heap.size w w') /\
 (∀ (Bm:Nat) (w:World),Bm<w.heap.size->w.cell? ⟨Bm,0,none⟩=some (.map none) ->
  Calls P fs #[.func (.func fi) #[] #[.pointer (some ⟨Bm,0,none⟩)]] w fun e w'=>e = .returned (.slice none 0 0)/\Below w.heap.size w w')
theorem sJ{ck:Nat}:∀ {es:List Entry},lp ck es=true->(∀ e ∈ es,(∃ s,e.1 = .str s/\s.length<=140737488351232)/\e.2.2<ck)/\es.Pairwise (fun e f=>keyBytes e≠keyBytes f/\e.2.2≠f.2.2)
 |[],_=>⟨by simp,.nil⟩
 |e :: es,h=>by
  simp only [lp,and_eq_true,List.all_eq_true,not_eq_true'] at h;obtain ⟨h1,h2,h3,h4⟩:=h;obtain ⟨i1,i2⟩:=sJ h4;refine ⟨fun f hf=>?_,?_⟩
  ·rcases mem_cons.1 hf with rfl|hf
   ·refine ⟨?_,le_of_ble_eq_true h2⟩;unfold isStr at h1;split at h1
    ·rename_i s hs;exact ⟨s,hs,le_of_ble_eq_true h1⟩
    ·cases h1
   ·exact i1 f hf
  ·rw [pairwise_cons];refine ⟨fun f hf=>?_,i2⟩;obtain ⟨a,b⟩:=h3 f hf;exact ⟨fun q=>by rw [q] at a;simp at a,ne_of_beq_eq_false b⟩
theorem D4{tk:TypeId}(hk:P.underlying tk=some .string){c:Nat}{es:List Entry}{dN:Array MapEntry}{ck:Nat}(hb:w.heap[c]?=some (.map dN ck))(he:iW w0 μ es dN.toList)(EL:lp ck es=true)(hsz:es.length*16<=140737488355328) :
  ∃ D0:DataW Unit,w.ownsMap P tk (fun _=>some (.nil,[])) c dN.size D0/\Maps.size D0=es.length/\(strKeys D0).Perm (es.map keyBytes):=by
 obtain ⟨h1,h2⟩:=sJ EL;obtain ⟨L,rfl,yU,hL⟩:=iW.mj _ _ he
 have JI:∀ p ∈ L,∃ s:ByteArray,p.2.key = .string s/\keyBytes p.1=s.data.toList/\s.size<=maxLen:=fun p hp=>by
  obtain ⟨⟨s,hs,hl⟩,_⟩:=h1 p.1 (mem_map.2 ⟨p,hp,rfl⟩);have hv:=(hL p hp).1;rw [hs] at hv;obtain ⟨b,hb,rfl⟩:=hv.ef;refine ⟨b,hb,?_,?_⟩
  ·obtain ⟨⟨k,v,n⟩,q⟩:=p;simp only at hs;subst hs;rfl
  ·have:b.data.toList.length=b.size:=by rw [Array.length_toList];rfl
   unfold maxLen;omega
 have MA:∀ p ∈ L,WideElems.rd (H:=Unit) P tk (fun _=>some (.nil,[])) p.2=some (.string (keyBytes p.1),.nil):=fun p hp=>by
  obtain ⟨s,a,b,d⟩:=JI p hp;simp [WideElems.rd,a,WideMaps.keyOf_string_mk hk d,b]
 have hlen:dN.size=L.length:=by rw [<- Array.length_toList,yU];simp
 have AF:dN.toList.map (WideElems.rg (H:=Unit) P tk (fun _=>some (.nil,[])))=L.map fun p=>(.string (keyBytes p.1),.nil):=by
  rw [yU,List.map_map];exact map_congr_left fun p hp=>by simp [WideElems.rg,MA p hp]
 refine ⟨_,⟨dN,ck,hb,⟨?_,⟨fun x hx=>?_,?_,?_⟩,fun x hx=>?_⟩,dR _,rfl⟩,?_,?_⟩
 ·simp at hsz;unfold maxLen;omega
 ·rw [yU,mem_map] at hx;obtain ⟨p,hp,rfl⟩:=hx;have:=(h1 p.1 (mem_map.2 ⟨p,hp,rfl⟩)).2;rw [(hL p hp).2.2];exact this
 ·rw [yU,List.map_map];rw [pairwise_map] at h2;refine pairwise_map.2 (h2.imp_of_mem fun {a b} ha dw rq q=>rq.2 ?_);simp only [Function.comp] at q;rw [<- (hL a ha).2.2,<- (hL b dw).2.2];exact q
 ·rw [yU,List.map_map];rw [pairwise_map] at h2;refine pairwise_map.2 (h2.imp_of_mem fun {a b} ha dw rq q=>rq.1 ?_);simp only [Function.comp] at q;obtain ⟨s,a1,a2,_⟩:=JI a ha;obtain ⟨s',b1,b2,_⟩:=JI b dw;rw [a1,b1] at q;cases q;rw [a2,b2]
 ·rw [yU,mem_map] at hx;obtain ⟨p,hp,rfl⟩:=hx;exact ⟨_,MA p hp⟩
 ·rw [AF];rw [Maps.size_eq,length_sorted];simp
 ·rw [AF];show ((foldr DataW.insert [] (L.map fun p=>(Lit.string (keyBytes p.1),(DataW.nil:DataW Unit)))).map fun p=>strOf p.1).Perm _;refine ((WideShapes.sorted_perm _).map _).trans ?_;rw [List.map_map,List.map_map];exact .refl _
theorem FJ{μ:Mu}(ss:List (List UInt8)):cj w0 μ (ss.map .str) (ss.map encStr):=cj.map ss fun s _=>by
 have:=VR.str (w0:=w0) (μ:=μ) ⟨s.toArray⟩;simpa [encStr] using this
theorem nO{fs fi:FuncId}{tk:TypeId}(he:Enters P fs)(hk:P.underlying tk=some .string)(hs:mB P fs fi tk)(args:List AV)(h:Heap)(K:Out->Heap->Bool)(hK:jV fi args h K=true) :
  Enters P fs/\∀ (w0:World) (μ:Mu) (w:World) (vs:List Value),Good w0 μ h w->cj w0 μ args vs->Calls P fs vs.toArray w (qU w0 μ h w K):=by
 refine ⟨he,fun w0 μ w vs hg hv=>?_⟩;unfold jV at hK;split at hK
 ·rename_i f b;obtain ⟨v,us,rfl,h1,h2⟩:=hv.cons_inv;obtain rfl:=h2.ee;simp only [and_eq_true] at hK;obtain ⟨hf,hK⟩:=hK;obtain rfl:=eq_of_beq_eq_true hf;cases h1;rename_i as bs l1 r1 l2 r2;obtain rfl:as = []:=eq_nil_of_length_eq_zero (by simpa using l1.symm);obtain ⟨pv,OP,rfl,p1,p2⟩:=(cj.mk l2 r2).cons_inv;obtain rfl:=p2.ee;cases p1;rename_i k hkk;split at hK
  ·rename_i m K9;obtain ⟨k0,bv,be,b1,b2⟩:=hg.obj b k _ hkk K9;split at hK
   ·rename_i es ck Rf;simp only [and_eq_true] at hK;obtain ⟨q1,q2,q3⟩:=hK;cases b2;rename_i km Rg;obtain ⟨dN,c1,c2⟩:=hg.map Rg Rf;have hsz:=le_of_ble_eq_true q2;obtain ⟨D0,d1,d2,d3⟩:=D4 hk c1 c2 q1 hsz;have hcell:w.cell? ⟨k.c,k.base+0,none⟩=some (.map (some km.c)):=by rw [k0];simp [World.cell?,b1]
    rw [k0] at hcell;simp only [k0,Nat.zero_add];refine Calls.mono (hs.1 k.c km.c _ D0 w (hg.own b k hkk).2 hcell d1 (by rw [d2];unfold maxLen;omega) (by rw [d2];exact hsz)) fun e w' hR=>?_;obtain ⟨v,ss,rfl,s1,s2,s3,s4⟩:=hR;have kF:=FI (s1.trans d3);rw [kF] at s2;have hlen:(kE (es.map keyBytes)).length=ss.length:=((iH _).trans (s1.trans d3).symm).length_eq;obtain ⟨o1,o2⟩:=s2;generalize hq:kE (es.map keyBytes)=sk at *
    cases sk with
    |nil=>
     have:ss = []:=eq_nil_of_length_eq_zero (by simpa using hlen.symm);obtain rfl:=s3.2 this;obtain ⟨g1,x1⟩:=hg.later s4;exact ⟨.aE,h,μ,q3,.aE,g1,x1⟩
    |cons kk ks=>
     rcases o2 with ⟨rfl,h0⟩|⟨g,cap,cur,rfl,GB,LB,K5,K6,Kv,Rh⟩
     ·simp at hlen;omega
     ·have It:g<w'.heap.size:=(Array.getElem?_eq_some_iff.1 LB).1;have mC:=FJ (w0:=w0) (μ:=μ) (kk :: ks)
      have qS:iV h.bk w0 μ (.cells ((kk :: ks).map .str)) ⟨g,0,cap⟩ (w'.heap[g]?):=by
       refine ⟨cur,tk,(0,0),LB,by simpa using Kv,?_,.inl (dR _),fun i x hx=>?_⟩
       ·simp only [length_map,hlen];omega
       ·obtain ⟨u,hu,hr⟩:=mC.get hx;refine ⟨u,?_,hr⟩;rw [<- Rh,getElem?_take] at hu;split at hu
        ·rw [Nat.zero_add,<- Array.getElem?_toList];exact hu
        ·cases hu
      obtain ⟨g1,x1⟩:=hg.take s4 GB It _ qS;refine ⟨_,_,_,q3,?_,g1,x1⟩;have Lq:ks.length+1=ss.length:=by simpa using hlen
      rw [Lq];exact .slice h.next 0 ss.length 1 cap ⟨g,0,none⟩ ⟨g,0,cap⟩ (Mu.add_same _ _ _) K5 (fun _=>⟨rfl,by simp⟩)
   ·cases hK
  ·rename_i K9;obtain ⟨k0,bv,be,b1,b2⟩:=hg.obj b k _ hkk K9;cases b2;have hcell:w.cell? ⟨k.c,0,none⟩=some (.map none):=by simp [World.cell?,b1]
   simp only [k0,Nat.zero_add];refine Calls.mono (hs.2 k.c w (hg.own b k hkk).2 hcell) fun e w' hR=>?_;obtain ⟨rfl,s4⟩:=hR;obtain ⟨g1,x1⟩:=hg.later s4;exact ⟨.aE,h,μ,hK,.aE,g1,x1⟩
  ·cases hK
 ·cases hK
end
end
end Go.AM