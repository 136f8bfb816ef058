/- The proof, part Ug: the texts HasP, StrA, RotC, StrB, WirA, WirB, StrC, RotA, RotB, RotD, SfE, WirC, WirD, WirE, WirF, PlaA, PlaB, RotE, RotF, ApA, SfD, MemA, MemB, MemC. -/
import Derived.Test.YtkfbkooobfepeaaGreatDoorUf
set_option linter.unusedSimpArgs false
set_option linter.unusedVariables false
/- SHA-256 as a stream: what Add and Sum compute, byte by byte. -/
namespace Go.Proofs.YtkfbkooobfepeaaGreatDoor
open Go Go.Sx Sf
set_option maxRecDepth 100000
set_option linter.unusedSimpArgs false
set_option linter.unusedVariables false
def byI (b:List UInt8):List Int:=b.map (fun x=>(x.toNat:Int))
theorem bys_u8 (b:List UInt8):(byI b).map u8=bys b:=by
  simp only [byI,bys,List.map_map]
  rfl
theorem byI_len (b:List UInt8):(byI b).length=b.length:=by simp [byI]
structure HS where
  s:V8
  b:List UInt8
  n:Nat
def HS.push (h:HS) (c:UInt8):HS:=
  ⟨if h.n % 64=63 then comp h.s (byI (h.b.set (h.n % 64) c)) else h.s,h.b.set (h.n % 64) c,h.n+1⟩
def HS.add (h:HS) (t:List UInt8):HS:=t.foldl HS.push h
theorem HS.add_nil (h:HS):h.add []=h:=rfl
theorem HS.add_cons (h:HS) (c:UInt8) (t:List UInt8):h.add (c :: t)=(h.push c).add t:=rfl
theorem HS.add_app (h:HS) (a b:List UInt8):(h.add a).add b=h.add (a++b):=by
  unfold HS.add
  rw [List.foldl_append]
theorem HS.add_len:∀ (t:List UInt8) (h:HS),(h.add t).b.length=h.b.length
  | [],h=>rfl
  | c :: t,h=>by rw [HS.add_cons,HS.add_len t];simp [HS.push]
theorem HS.add_n:∀ (t:List UInt8) (h:HS),(h.add t).n=h.n+t.length
  | [],h=>rfl
  | c :: t,h=>by rw [HS.add_cons,HS.add_n t];simp [HS.push];omega
def over (b t:List UInt8) (at':Nat):List UInt8:=b.take at'++t++b.drop (at'+t.length)
theorem over_set {b t:List UInt8} {k:Nat} {c:UInt8} (hk:k < b.length):over (b.set k c) t (k+1)=over b (c :: t) k:=by
  unfold over
  have e1:(b.set k c).take (k+1)=b.take k++[c]:=by
    rw [List.take_add_one,List.take_set_of_le (by omega)]
    simp [hk]
  have e2:(b.set k c).drop (k+1+t.length)=b.drop (k+(c :: t).length):=by
    rw [List.drop_set_of_lt (by omega)]
    congr 1
    simp;omega
  rw [e1,e2]
  simp
theorem HS.add_chunk:∀ (t:List UInt8) (h:HS),h.b.length=64→t≠[]→h.n % 64+t.length≤64 →
    h.add t=⟨if h.n % 64+t.length=64 then comp h.s (byI (over h.b t (h.n % 64))) else h.s,over h.b t (h.n % 64),h.n+t.length⟩
  | [],h,_,h0,_=>absurd rfl h0
  | [c],h,hb,_,hl=>by
    rw [HS.add_cons,HS.add_nil]
    unfold HS.push
    have e:h.b.set (h.n % 64) c=over h.b [c] (h.n % 64):=by
      have:=over_set (b:=h.b) (t:=[]) (k:=h.n % 64) (c:=c) (by omega)
      rw [← this]
      unfold over
      simp
    rw [e]
    simp only [List.length_cons,List.length_nil]
    congr 1
    by_cases h63:h.n % 64=63
    · rw [if_pos h63,if_pos (by omega)]
    · rw [if_neg h63,if_neg (by omega)]
  | c :: d :: t,h,hb,_,hl=>by
    simp only [List.length_cons] at hl
    rw [HS.add_cons]
    have e:h.push c=⟨h.s,h.b.set (h.n % 64) c,h.n+1⟩:=by
      unfold HS.push
      rw [if_neg (by omega)]
    rw [e,HS.add_chunk (d :: t) _ (by simp [hb]) (by simp) (by simp only [List.length_cons];omega)]
    have e2:(h.n+1) % 64=h.n % 64+1:=by omega
    simp only [e2]
    rw [over_set (by omega)]
    simp only [List.length_cons]
    congr 1
    · by_cases hh:h.n % 64+(t.length+1+1)=64
      · rw [if_pos hh,if_pos (by omega)]
      · rw [if_neg hh,if_neg (by omega)]
    · omega
theorem over_all {b t:List UInt8} (h:b.length≤t.length):over b t 0=t:=by
  unfold over
  rw [List.drop_of_length_le (by omega)]
  simp
theorem HS.add_block (h:HS) (t:List UInt8) (hb:h.b.length=64) (hn:h.n % 64=0) (ht:t.length=64):h.add t=⟨comp h.s (byI t),t,h.n+64⟩:=by
  rw [HS.add_chunk t h hb (by intro e;rw [e] at ht;simp at ht) (by omega),hn,if_pos (by omega),over_all (by omega),ht]
def iv:V8:=⟨1779033703,3144134277,1013904242,2773480762,1359893119,2600822924,528734635,1541459225⟩
def hs0:HS:=⟨iv,List.replicate 64 0,0⟩
def valS (m:List UInt8):V8:=(hs0.add m).s
theorem hs0_len (m:List UInt8):(hs0.add m).b.length=64:=by rw [HS.add_len];simp [hs0]
theorem hs0_n (m:List UInt8):(hs0.add m).n=m.length:=by rw [HS.add_n];simp [hs0]
theorem valS_step {m:List UInt8} {t:Nat} (h:64 * t+64≤m.length):valS (m.take (64 * (t+1)))=comp (valS (m.take (64 * t))) (byI ((m.drop (64 * t)).take 64)):=by
  unfold valS
  rw [show 64 * (t+1)=64 * t+64 by omega,List.take_add,← HS.add_app,HS.add_block _ _ (hs0_len _) (by rw [hs0_n];simp;omega) (by simp;omega)]
def padZ (n:Nat):Nat:=(119 - n % 64) % 64
def lenB (n:Nat) (i:Nat):UInt8:=wrapB ((IntKind.u64.wrap (8 * (n:Int))).fdiv (2 ^ (min (56 - 8 * i) IntKind.u64.bits)))
def lenBs (n:Nat):List UInt8:=(List.range 8).map (lenB n)
def padS (n:Nat):List UInt8:=128 :: List.replicate (padZ n) 0++lenBs n
theorem padZ_le (n:Nat):padZ n < 64:=by unfold padZ;omega
theorem padZ_ok (n:Nat):(n+(1+padZ n)) % 64=56:=by unfold padZ;omega
theorem padZ_not {n j:Nat} (h:j < padZ n):(n+(1+j)) % 64≠56:=by unfold padZ at h;omega
theorem lenBs_len (n:Nat):(lenBs n).length=8:=by simp [lenBs]
theorem padS_len (n:Nat):(padS n).length=padZ n+9:=by simp [padS,lenBs_len]
theorem padS_mod (n:Nat):(n+(padS n).length) % 64=0:=by rw [padS_len];unfold padZ;omega
def outB (s:V8) (i:Nat):UInt8:=wrapB ((s.l.getD (i / 4) 0).fdiv (2 ^ (min (24 - 8 * (i % 4)) IntKind.u32.bits)))
def outS (s:V8):List UInt8:=(List.range 32).map (outB s)
theorem outS_len (s:V8):(outS s).length=32:=by simp [outS]
def sumS (m:List UInt8):List UInt8:=outS (valS (m++padS m.length))

-- streams as values
def HS.l (h:HS):List SV:=h.s.l.map u32++(bys h.b++[.int .u64 (h.n:Int)])
theorem HS.l_len {h:HS} (hb:h.b.length=64):h.l.length=73:=by
  unfold HS.l
  simp [V8.l,len_bytes,hb]
theorem HS.l_n {h:HS} (hb:h.b.length=64):h.l[72]?=some (.int .u64 (h.n:Int)):=by
  unfold HS.l
  rw [List.getElem?_append_right (by simp [V8.l]),List.getElem?_append_right (by simp [V8.l,len_bytes,hb])]
  simp [V8.l,len_bytes,hb]
theorem HS.l_s {h:HS} {q:Nat} (hq:q < 8):h.l[q]?=some (.int .u32 (h.s.l.getD q 0)):=by
  unfold HS.l
  have hl:h.s.l.length=8:=rfl
  rw [List.getElem?_append_left (by simp [hl,hq])]
  simp [List.getD_eq_getElem?_getD,hl,hq,u32]
theorem HS.l_take {h:HS} (hb:h.b.length=64):List.take 73 h.l=h.l:=List.take_of_length_le (by rw [HS.l_len hb];omega)
theorem flat_u32:∀ b:List Int,SV.flatL (b.map u32)=true
  | []=>rfl
  | n :: b=>by simp only [List.map_cons,SV.flatL,u32,SV.flat,Bool.true_and];exact flat_u32 b
theorem flatL_app:∀ {a b:List SV},SV.flatL a=true→SV.flatL b=true→SV.flatL (a++b)=true
  | [],b,_,h=>h
  | x :: a,b,h1,h2=>by
    simp only [List.cons_append,SV.flatL,Bool.and_eq_true] at h1 ⊢
    exact ⟨h1.1,flatL_app h1.2 h2⟩
theorem HS.l_flat (h:HS):SV.flatL h.l=true:=by
  unfold HS.l
  exact flatL_app (flat_u32 _) (flatL_app (flat_bytes _) rfl)
theorem HS.l_ren (η:Nat→Nat × Nat) (h:HS):SV.renL η h.l=h.l:=SV.flatL_ren η _ (HS.l_flat h)
def unHS:List SV→Option HS
  | .int .u32 a :: .int .u32 b :: .int .u32 c :: .int .u32 d :: .int .u32 e :: .int .u32 f :: .int .u32 g :: .int .u32 h :: r=>match unB (r.take 64),r.drop 64 with
    | some bl,[.int .u64 (.ofNat n)]=>some ⟨⟨a,b,c,d,e,f,g,h⟩,bl,n⟩
    | _,_=>none
  | _=>none
theorem unHS_l {h:HS} (hb:h.b.length=64):unHS h.l=some h:=by
  obtain ⟨⟨a,b,c,d,e,f,g,k⟩,bl,n⟩:=h
  simp only at hb
  unfold HS.l
  simp only [V8.l,u32,unHS,BB]
  rw [List.take_left' (by simp [len_bytes,hb]),List.drop_left' (by simp [len_bytes,hb]),unB_bytes]
theorem unHS_some {l:List SV} {h:HS} (hh:unHS l=some h):l=h.l:=by
  unfold unHS at hh
  split at hh
  · rename_i a b c d e f g k r
    split at hh
    · rename_i bl n hb hd
      cases hh
      unfold HS.l
      simp only [V8.l,u32,BB]
      have:=unB_some hb
      rw [← this]
      have e2:r=r.take 64++r.drop 64:=(List.take_append_drop 64 r).symm
      rw [hd] at e2
      rw [show ((n:Nat):Int)=Int.ofNat n from rfl,← e2]
    · cases hh
  · cases hh
end Go.Proofs.YtkfbkooobfepeaaGreatDoor

/- The stream of package hash: Begin and Add. -/
namespace Go.Proofs.YtkfbkooobfepeaaGreatDoor
open Go Go.Sx Sf
set_option maxRecDepth 100000
set_option linter.unusedVariables false
variable {tS:List (Nat × List SV)}
theorem f52:Fun Tryz.prog tS 70 [] [] 0 (.agg hs0.l) [] 0:=by
  refine fun_pure none cF cF_ok chk52 (show 0≤3 by decide) (fun η=>by simp only [SV.ren,HS.l_ren]) ?_
  unfold sf52 oq ov
  simp (config:={ maxSteps:=1000000 }) only [reduceCtorEq,Nat.reduceEqDiff,Nat.reduceAdd,Nat.reduceLeDiff,eq_self,frOf,↓reduceIte,↓fillE,↓evRes,Opd.ev,Sx.get,put,putO,del,dels,rd,upd,splice,SV.cells?,SV.one,retOf,BB,↓PB]
  rfl
def tabSt:List (FuncId × GS):=[(90,g73)]
theorem tabSt_ok:∀ x ∈ tabSt,FunS Tryz.prog tH x.1 x.2:=by
  intro x hx
  simp only [tabSt,List.mem_cons,List.not_mem_nil,or_false] at hx
  subst hx
  exact g73_ok
def cSt:CallT:=callS tabSt cF
theorem cSt_ok:∀ f a m n K,cSt f a m n K→callT Tryz.prog tH f a m n K:=callS_ok tabSt_ok cF_ok
theorem splice_app {a b c d:List SV} {k:Nat} (hk:k=a.length) (hd:d.length=b.length):splice (a++(b++c)) k d=a++(d++c):=by
  unfold splice
  subst hk
  rw [List.take_left,List.append_assoc,hd,← List.append_assoc a b c,← List.length_append,List.drop_left]
theorem u32_8 (s:V8):(s.l.map u32).length=8:=rfl
theorem l_s0 {s s':V8} {b:List UInt8} {n:Nat}:splice (HS.mk s b n).l 0 (s'.l.map u32)=(HS.mk s' b n).l:=by
  unfold HS.l
  have:=splice_app (a:=[]) (b:=s.l.map u32) (c:=bys b++[.int .u64 (n:Int)]) (k:=0) (d:=s'.l.map u32) rfl rfl
  simpa using this
theorem V8.l_len (s:V8):s.l.length=8:=rfl
theorem l_n72 {s:V8} {b:List UInt8} {n n':Nat} (hb:b.length=64):splice (HS.mk s b n).l 72 [.int .u64 (n':Int)]=(HS.mk s b n').l:=by
  unfold HS.l
  have:=splice_app (a:=s.l.map u32++bys b) (b:=[.int .u64 (n:Int)]) (c:=[]) (k:=72) (d:=[.int .u64 (n':Int)]) (by simp [V8.l_len,len_bytes,hb]) rfl
  simpa using this
theorem l_over {s:V8} {b t:List UInt8} {n k:Nat} (hb:b.length=64) (hk:k+t.length≤64):splice (HS.mk s b n).l (8+k) (bys t)=(HS.mk s (over b t k) n).l:=by
  unfold HS.l over
  have e:bys b=bys (b.take k)++(bys ((b.drop k).take t.length)++bys (b.drop (k+t.length))):=by
    simp only [bytes_app]
    congr 1
    rw [← List.drop_drop,List.take_append_drop,List.take_append_drop]
  have:=splice_app (a:=s.l.map u32++bys (b.take k)) (b:=bys ((b.drop k).take t.length)) (c:=bys (b.drop (k+t.length))++[.int .u64 (n:Int)]) (k:=8+k) (d:=bys t)
    (by simp [V8.l_len,len_bytes,hb];omega) (by simp [len_bytes,hb];omega)
  simp only
  rw [e,← bytes_app,← bytes_app]
  simp only [List.append_assoc] at this ⊢
  exact this
theorem l_t8 {h:HS}:List.take 8 h.l=h.s.l.map u32:=by
  unfold HS.l
  exact List.take_left' rfl
theorem l_d8 {s:V8} {b:List UInt8} {n:Nat} (hb:b.length=64):List.take 64 (List.drop 8 (HS.mk s b n).l)=bys b:=by
  unfold HS.l
  simp only
  rw [List.drop_left' (u32_8 s),List.take_left' (by simp [len_bytes,hb])]
theorem over_len {b t:List UInt8} {k:Nat} (hb:b.length=64) (hk:k+t.length≤64):(over b t k).length=64:=by
  unfold over;simp;omega
theorem rem_nat {n:Nat} (h:n < 2 ^ 60):IntKind.i64.wrap (Int.tmod (n:Int) 64)=((n % 64:Nat):Int):=by
  have e:Int.tmod (n:Int) 64=((n % 64:Nat):Int):=(Int.ofNat_tmod n 64).symm
  rw [e,wrap64_eq (by omega) (by omega)]
def hz0:HS:=⟨⟨0,0,0,0,0,0,0,0⟩,List.replicate 64 0,0⟩
theorem g73_eq {s:V8} {b:List UInt8} {cap:Option Nat} (hb:b.length=64) (hc:capB cap 64=true) :
    g73 [.agg [.int .u32 s.a,.int .u32 s.b,.int .u32 s.c,.int .u32 s.d,.int .u32 s.e,.int .u32 s.f,.int .u32 s.g,.int .u32 s.h],.slc 0 0 1 64 cap] [(0,⟨.view,bys b⟩)]=some (.agg ((comp s (byI b)).l.map u32),[],1):=by
  unfold g73
  simp only
  rw [← bys_u8,unI8_map]
  simp only [byI_len,hb,hc]
set_option maxHeartbeats 4000000 in
theorem f53 (h:HS) (t:List UInt8) (hb:h.b.length=64) (hn:h.n+t.length < 2 ^ 60):Fun Tryz.prog tH 71 [.agg h.l,.str t] [] 0 (.agg (h.add t).l) [] 0:=by
  refine fun_pure none cSt cSt_ok chk53 (show 2≤38 by decide) (fun η=>by simp only [SV.ren,HS.l_ren]) ?_
  unfold sf53 oh om oq ov
  have hl:=HS.l_len hb
  have ht:=HS.l_take hb
  have rH:∀ η (h:HS),SV.renL η h.l=h.l:=HS.l_ren
  have hzl:hz0.l.length=73:=HS.l_len rfl
  simp (config:={ maxSteps:=1000000 }) only [cSt,tabSt,reduceCtorEq,Nat.reduceEqDiff,Nat.reduceAdd,eq_self,frOf,↓reduceIte,Opd.ev,Sx.get,put,putO,del,dels,SV.cells?,BB,↓PB]
  rw [den_loop]
  refine den_inv cSt_ok (σ:=HS × List UInt8) (fun x=>[(4,.ptr 1 0),(2,.ptr 0 0),(1,.str x.2)]) (fun x=>[(1,⟨.own 118,hz0.l⟩),(0,⟨.own 118,x.1.l⟩)]) (fun _=>2)
    (fun x=>x.1.b.length=64∧x.1.n+x.2.length < 2 ^ 60∧x.1.add x.2=h.add t) (fun x=>x.2.length) (h,t) ?_ ⟨hb,hn,rfl⟩ ?_
  · exact ⟨[(0,0),(1,0)],by simp only [rH,EntM,compat,apartM,keysBelow,eta,idHs,rd,Nat.reduceAdd,Nat.reduceSub,Nat.reduceLT,Nat.reduceLeDiff,↓reduceIte,Kind.isOwn,exists_eq_left',ne_eq,implies_true,false_imp_iff,forall_const,forall_eq,BB];rfl,by simp [frEnt,geto,eta,SV.ren,Nat.reduceAdd,Nat.reduceEqDiff,Nat.reduceLeDiff,↓reduceIte,BB]⟩
  · rintro ⟨⟨s,b,n⟩,u⟩ ⟨hb',hn',hx⟩
    simp only at hb' hn' hx ⊢
    have hl':=HS.l_len (h:=⟨s,b,n⟩) hb'
    have ht':=HS.l_take (h:=⟨s,b,n⟩) hb'
    have hg':=HS.l_n (h:=⟨s,b,n⟩) hb'
    by_cases h0:u=[]
    · subst h0
      simp (config:={ maxSteps:=1000000 }) only [hl',ht',hzl,reduceCtorEq,Nat.reduceEqDiff,eq_self,↓reduceIte,↓binS,↓evRes,Opd.ev,Sx.get,put,putO,del,dels,rd,upd,SV.cells?,retOf,BB,↓PB]
      have hx2:HS.mk s b n=h.add t:=hx
      rw [← hx2]
      rw [show splice hz0.l 0 (HS.mk s b n).l=(HS.mk s b n).l by
        have:=splice_app (a:=[]) (b:=hz0.l) (c:=[]) (k:=0) (d:=(HS.mk s b n).l) rfl (by rw [hzl,hl'])
        simpa using this]
      exact ⟨by omega,ht'⟩
    · have hu:0 < u.length:=List.length_pos_iff.mpr h0
      have hnn:n < 2 ^ 60:=by omega
      have e1:=rem_nat (n:=n) hnn
      have hbeq:(u == [])=false:=by cases u with
        | nil=>exact absurd rfl h0
        | cons x y=>rfl
      have ha:n % 64 < 64:=Nat.mod_lt _ (by decide)
      have hch:=HS.add_chunk (u.take (min u.length (64 - n % 64))) ⟨s,b,n⟩ hb' (fun e=>by
          have h1:(u.take (min u.length (64 - n % 64))).length=0:=by rw [e];rfl
          rw [List.length_take] at h1;omega) (by simp only [List.length_take];omega)
      have hsp:(u.take (min u.length (64 - n % 64)))++u.drop (min u.length (64 - n % 64))=u:=List.take_append_drop _ _
      generalize hat:n % 64=a at *
      generalize hk:min u.length (64 - a)=k at *
      have k1:0 < k:=by omega
      have k2:k≤u.length:=by omega
      have k3:a+k≤64:=by omega
      have tl:(u.take k).length=k:=by simp;omega
      have bt:List.take k (bys u)=bys (u.take k):=by simp [bys,List.map_take]
      have lo:=l_over (s:=s) (b:=b) (t:=u.take k) (n:=n) (k:=a) hb' (by omega)
      have hb2:=over_len (b:=b) (t:=u.take k) (k:=a) hb' (by omega)
      generalize hb2e:over b (u.take k) a=b2 at *
      have hg2:=HS.l_n (h:=⟨s,b2,n⟩) hb2
      have l72:=l_n72 (s:=s) (b:=b2) (n:=n) (n':=n+k) hb2
      have hl2:=HS.l_len (h:=⟨s,b2,n⟩) hb2
      have hl3:=HS.l_len (h:=⟨s,b2,n+k⟩) hb2
      have wk:IntKind.u64.wrap (k:Int)=(k:Int):=by rw [show IntKind.u64.wrap (k:Int)=(k:Int) % 18446744073709551616 by simp [IntKind.wrap,IntKind.bits,IntKind.signed]];omega
      have wn:IntKind.u64.wrap ((n:Int)+(k:Int))=((n+k:Nat):Int):=by rw [show IntKind.u64.wrap ((n:Int)+(k:Int))=((n:Int)+(k:Int)) % 18446744073709551616 by simp [IntKind.wrap,IntKind.bits,IntKind.signed]];omega
      have wa:IntKind.i64.wrap ((a:Int)+(k:Int))=((a+k:Nat):Int):=by rw [wrap64_eq (by omega) (by omega)];omega
      have ht8:List.take 8 (HS.mk s b2 (n+k)).l=[.int .u32 s.a,.int .u32 s.b,.int .u32 s.c,.int .u32 s.d,.int .u32 s.e,.int .u32 s.f,.int .u32 s.g,.int .u32 s.h]:=l_t8
      have hd8:=l_d8 (s:=s) (b:=b2) (n:=n+k) hb2
      have dk:List.take (u.length - k) (List.drop k u)=List.drop k u:=List.take_of_length_le (by simp)
      have rw3:∀ η (s:V8),SV.renL η (s.l.map u32)=s.l.map u32:=fun η s=>ren_w η _
      by_cases h64:a+k=64
      · have c64:(((a+k:Nat):Int) == 64)=true:=by simp;omega
        simp (config:={ maxSteps:=1000000 }) only [hl',hg',e1,hk,bt,lo,hg2,l72,hl2,hl3,wk,wn,wa,ht8,hd8,c64,hbeq,dk,rw3,l_s0,↓g73_eq (cap:=some 64) hb2 rfl,SV.flatL,SV.flat,lookF,reduceCtorEq,Nat.reduceEqDiff,Nat.reduceAdd,Nat.reduceSub,Nat.reduceLeDiff,Nat.reduceLT,Int.reduceToNat,Int.reduceLE,Int.reduceNe,eq_self,↓reduceIte,↓binI,↓binS,evA,Opd.ev,Sx.get,put,putO,del,dels,frD,memD,pickD,kills,views,newer,rd,upd,SV.cells?,SV.one,canLW,canV,canC,belowL,apH,apH1,SV.ren,newOwn,targets,rms,Kind.isOwn,BB,↓PB]
        refine ⟨by omega,by omega,by omega,by omega,by omega,by omega,rfl,(⟨comp s (byI b2),b2,n+k⟩,u.drop k),⟨[(0,0),(1,0)],by simp only [rH,EntM,compat,apartM,keysBelow,eta,idHs,rd,Nat.reduceAdd,Nat.reduceSub,Nat.reduceLT,Nat.reduceLeDiff,↓reduceIte,Kind.isOwn,exists_eq_left',ne_eq,implies_true,false_imp_iff,forall_const,forall_eq,BB],by simp [frEnt,geto,eta,SV.ren,Nat.reduceAdd,Nat.reduceEqDiff,Nat.reduceLeDiff,↓reduceIte,BB]⟩,⟨hb2,by simp only [List.length_drop];omega,?_⟩,by simp only [List.length_drop];omega⟩
        rw [tl,if_pos h64] at hch
        simp only at hch ⊢
        rw [← hch,HS.add_app,hsp]
        exact hx
      · have c64:(((a+k:Nat):Int) == 64)=false:=by simp;omega
        simp (config:={ maxSteps:=1000000 }) only [hl',hg',e1,hk,bt,lo,hg2,l72,hl2,wk,wn,wa,c64,hbeq,dk,reduceCtorEq,Nat.reduceEqDiff,Nat.reduceAdd,Int.reduceToNat,Int.reduceLE,Int.reduceNe,eq_self,↓reduceIte,↓binI,↓binS,Opd.ev,Sx.get,put,putO,del,dels,rd,upd,SV.cells?,SV.one,BB,↓PB]
        refine ⟨by omega,by omega,by omega,by omega,by omega,by omega,(⟨s,b2,n+k⟩,u.drop k),⟨[(0,0),(1,0)],by simp only [rH,EntM,compat,apartM,keysBelow,eta,idHs,rd,Nat.reduceAdd,Nat.reduceSub,Nat.reduceLT,Nat.reduceLeDiff,↓reduceIte,Kind.isOwn,exists_eq_left',ne_eq,implies_true,false_imp_iff,forall_const,forall_eq,BB],by simp [frEnt,geto,eta,SV.ren,Nat.reduceAdd,Nat.reduceEqDiff,Nat.reduceLeDiff,↓reduceIte,BB]⟩,⟨hb2,by simp only [List.length_drop];omega,?_⟩,by simp only [List.length_drop];omega⟩
        rw [tl,if_neg h64] at hch
        simp only at hch ⊢
        rw [← hch,HS.add_app,hsp]
        exact hx
end Go.Proofs.YtkfbkooobfepeaaGreatDoor

/- The reference's padding of a message. -/
namespace Go.Proofs.YtkfbkooobfepeaaGreatDoor
open Go Go.Sx Sf
set_option maxRecDepth 100000
set_option linter.unusedVariables false
variable {tS:List (Nat × List SV)}
def padA (m:List UInt8) (j:Nat):List UInt8:=m++(128 :: List.replicate j 0)
def padC (m:List UInt8) (i:Nat):List UInt8:=padA m (padZ m.length)++(List.range i).map (lenB m.length)
theorem padA_len (m:List UInt8) (j:Nat):(padA m j).length=m.length+1+j:=by simp [padA];omega
theorem padC_len (m:List UInt8) (i:Nat):(padC m i).length=m.length+1+padZ m.length+i:=by simp [padC,padA_len]
theorem padA_step (m:List UInt8) (j:Nat):padA m j++[0]=padA m (j+1):=by
  unfold padA
  rw [List.append_assoc,List.cons_append,List.replicate_succ']
theorem padC_step (m:List UInt8) (i:Nat):padC m i++[lenB m.length i]=padC m (i+1):=by
  unfold padC
  rw [List.append_assoc,List.range_succ,List.map_append];rfl
theorem padC_z (m:List UInt8):padC m 0=padA m (padZ m.length):=by simp [padC]
theorem padC_all (m:List UInt8):padC m 8=m++padS m.length:=by simp [padC,padA,padS,lenBs]
set_option maxHeartbeats 4000000 in
theorem f88 (m:List UInt8) (hm:m.length≤2 ^ 38) (cap:Option Nat) (hcap:CapOk cap m.length):Fun Tryz.prog tS 102 [.slc 0 0 1 m.length cap] [(0,⟨.view,bys m⟩)] 1 (.slc 1 0 1 (m++padS m.length).length none) [(1,⟨.own 5,bys (m++padS m.length)⟩)] 2:=by
  refine fun_any none cF cF_ok chk88 (show 1≤37 by decide) (by decide) ?_
  unfold sf88 om oq
  simp (config:={ maxSteps:=1000000 }) only [reduceCtorEq,Nat.reduceEqDiff,Nat.reduceAdd,eq_self,frOf,↓reduceIte,↓fillE,Opd.ev,Sx.get,put,putO,del,dels,rd,rm,splice,SV.cells?,SV.one,BB,↓PB]
  have w0:(128:UInt8).toNat=128:=rfl
  have e0:bys m++[SV.int .u8 128]=bys (padA m 0):=by simp only [padA,List.replicate_zero,← bytes_app];rfl
  have es:∀ j,bys (padA m j)++[SV.int .u8 0]=bys (padA m (j+1)):=fun j=>by rw [← padA_step,← bytes_app];rfl
  rw [e0]
  refine ⟨by omega,by omega,by omega,by omega,?_⟩
  rw [den_loop]
  refine den_inv cF_ok (σ:=Nat) (fun j=>[(3,.slc 1 0 1 (m.length+1+j) none),(0,.slc 0 0 1 m.length cap)]) (fun j=>[(1,⟨.own 5,bys (padA m j)⟩),(0,⟨.view,bys m⟩)]) (fun _=>2)
    (fun j=>j≤padZ m.length) (fun j=>padZ m.length - j) 0 ?_ (Nat.zero_le _) ?_
  · exact ⟨[(0,0),(4,0)],by simp [EntM,compat,apartM,keysBelow,eta,idHs,rd,Nat.reduceAdd,Nat.reduceLeDiff,↓reduceIte,Kind.isOwn,exists_eq_left',ne_eq,implies_true,forall_const,reduceCtorEq,forall_eq,BB],by simp [frEnt,geto,eta,SV.ren,Nat.reduceAdd,Nat.reduceLeDiff,↓reduceIte,reduceCtorEq,BB]⟩
  · intro j hj
    have hz:=padZ_le m.length
    have r1:Int.tmod ((m.length+1+j:Nat):Int) 64=(((m.length+1+j) % 64:Nat):Int):=(Int.ofNat_tmod _ 64).symm
    have r2:=rem_nat (n:=m.length+1+j) (by omega)
    have tk:List.take (m.length+1+j) (bys (padA m j))=bys (padA m j):=List.take_of_length_le (by rw [len_bytes,padA_len];omega)
    have ln:(padA m j).length=m.length+1+j:=padA_len m j
    by_cases hj2:j < padZ m.length
    · have c:((((m.length+1+j) % 64:Nat):Int) != 56)=true:=by
        have:=padZ_not hj2
        rw [show m.length+1+j=m.length+(1+j) by omega]
        simp;omega
      simp (config:={ maxSteps:=1000000 }) only [r1,c,tk,ln,es,reduceCtorEq,Nat.reduceEqDiff,Nat.reduceAdd,Int.reduceNe,eq_self,↓reduceIte,↓binI,↓fillE,Opd.ev,Sx.get,put,putO,del,dels,rd,rm,splice,SV.cells?,SV.one,BB,↓PB]
      exact ⟨by omega,by omega,j+1,⟨[(0,0),(3,0)],by simp [EntM,compat,apartM,keysBelow,eta,idHs,rd,Nat.reduceAdd,Nat.reduceLeDiff,↓reduceIte,Kind.isOwn,exists_eq_left',ne_eq,implies_true,forall_const,reduceCtorEq,forall_eq,BB],by simp [Nat.add_assoc,frEnt,geto,eta,SV.ren,Nat.reduceAdd,Nat.reduceLeDiff,↓reduceIte,reduceCtorEq,BB]⟩,by omega,by omega⟩
    · obtain rfl:j=padZ m.length:=by omega
      have c:((((m.length+1+padZ m.length) % 64:Nat):Int) != 56)=false:=by
        have:=padZ_ok m.length
        rw [show m.length+1+padZ m.length=m.length+(1+padZ m.length) by omega]
        simp;omega
      simp (config:={ maxSteps:=1000000 }) only [r1,c,reduceCtorEq,Nat.reduceEqDiff,Int.reduceNe,eq_self,↓reduceIte,↓binI,Opd.ev,Sx.get,put,putO,del,dels,BB,↓PB]
      have wl:IntKind.u64.wrap (m.length:Int)=(m.length:Int):=by rw [show IntKind.u64.wrap (m.length:Int)=(m.length:Int) % 18446744073709551616 by simp [IntKind.wrap,IntKind.bits,IntKind.signed]];omega
      rw [wl,← padC_z]
      generalize hN:IntKind.u64.wrap (8 * (m.length:Int))=N
      rw [den_loop]
      refine den_inv cF_ok (σ:=Nat) (fun i=>[(5,.int .i64 (i:Int)),(4,.int .u64 N),(3,.slc 1 0 1 (m.length+1+padZ m.length+i) none)]) (fun i=>[(1,⟨.own 5,bys (padC m i)⟩)]) (fun _=>2)
        (fun i=>i≤8) (fun i=>8 - i) 0 ?_ (Nat.zero_le _) ?_
      · exact ⟨[(0,0),(1,0)],by simp [EntM,compat,apartM,keysBelow,eta,idHs,rd,Nat.reduceAdd,Nat.reduceLeDiff,↓reduceIte,Kind.isOwn,exists_eq_left',ne_eq,implies_true,forall_const,BB],by simp [frEnt,geto,eta,SV.ren,Nat.reduceAdd,Nat.reduceEqDiff,Nat.reduceLeDiff,↓reduceIte,BB]⟩
      · intro i hi
        have tk2:List.take (m.length+1+padZ m.length+i) (bys (padC m i))=bys (padC m i):=List.take_of_length_le (by rw [len_bytes,padC_len];omega)
        have ln2:(padC m i).length=m.length+1+padZ m.length+i:=padC_len m i
        by_cases h8:i < 8
        · have c1:(i:Int) < 8:=by omega
          have v1:IntKind.i64.wrap (8 * (i:Int))=((8 * i:Nat):Int):=by rw [wrap64_eq (by omega) (by omega)];omega
          have v2:IntKind.i64.wrap (56 - ((8 * i:Nat):Int))=((56 - 8 * i:Nat):Int):=by rw [wrap64_eq (by omega) (by omega)];omega
          have v3:(0:Int)≤((56 - 8 * i:Nat):Int):=by omega
          have v4:IntKind.i64.wrap ((i:Int)+1)=((i+1:Nat):Int):=by rw [wrap64_eq (by omega) (by omega)];omega
          have eb:bys (padC m i)++[SV.int .u8 (IntKind.u8.wrap (N.fdiv (2 ^ (min (56 - 8 * i) IntKind.u64.bits))))]=bys (padC m (i+1)):=by
            rw [← padC_step,← bytes_app1,wrapB_sv]
            unfold lenB
            rw [hN]
          simp (config:={ maxSteps:=1000000 }) only [c1,v1,v2,v3,v4,tk2,ln2,eb,Nat.reduceEqDiff,Nat.reduceAdd,eq_self,↓reduceIte,↓binI,↓fillE,Opd.ev,Sx.get,put,putO,del,dels,rd,rm,splice,SV.cells?,SV.one,BB,↓PB]
          exact ⟨by omega,by omega,i+1,⟨[(0,0),(3,0)],by simp [EntM,compat,apartM,keysBelow,eta,idHs,rd,Nat.reduceAdd,Nat.reduceLeDiff,↓reduceIte,Kind.isOwn,exists_eq_left',ne_eq,implies_true,forall_const,BB],by simp [Nat.add_assoc,frEnt,geto,eta,SV.ren,Nat.reduceAdd,Nat.reduceEqDiff,Nat.reduceLeDiff,↓reduceIte,BB]⟩,by omega,by omega⟩
        · obtain rfl:i=8:=by omega
          simp (config:={ maxSteps:=1000000 }) only [Nat.reduceEqDiff,Int.reduceLT,eq_self,↓reduceIte,↓binI,↓evRes,Opd.ev,Sx.get,put,putO,del,dels,retOf,eta,SV.ren,BB,↓PB]
          rw [← ln2,padC_all]
          exact ⟨[(0,0),(1,0)],by simp [EntM,compat,apartM,keysBelow,eta,idHs,rd,Nat.reduceAdd,Nat.reduceLeDiff,↓reduceIte,Kind.isOwn,exists_eq_left',ne_eq,implies_true,forall_const,BB],by simp [Nat.reduceAdd,Nat.reduceLeDiff,BB]⟩
def gPad:GS
  | [.slc 0 0 1 len cap],[(0,⟨.view,cells⟩)]=>match unB cells with
    | some m=>match capB cap m.length with
      | true=>if len=m.length∧m.length≤2 ^ 38 then some (.slc 1 0 1 (m++padS m.length).length none,[(1,⟨.own 5,bys (m++padS m.length)⟩)],2) else none
      | _=>none
    | none=>none
  | _,_=>none
theorem gPad_ok:FunS Tryz.prog tS 102 gPad:=by
  intro a0 m0 r m1 n1 h
  unfold gPad at h
  split at h
  · split at h
    · rename_i m hm
      split at h
      · rename_i hcap
        split at h
        · rename_i hc
          cases h
          obtain ⟨rfl,h2⟩:=hc
          rw [unB_some hm]
          exact ⟨f88 m h2 _ (capB_ok hcap),by simp [freshB]⟩
        · cases h
      · cases h
    · cases h
  · cases h
end Go.Proofs.YtkfbkooobfepeaaGreatDoor

/- The stream of package hash: Sum. -/
namespace Go.Proofs.YtkfbkooobfepeaaGreatDoor
open Go Go.Sx Sf
set_option maxRecDepth 100000
set_option linter.unusedVariables false
variable {tS:List (Nat × List SV)}
def gAdd:List SV→Option SV
  | [.agg l,.str t]=>match unHS l with
    | some h=>if h.b.length=64∧h.n+t.length < 2 ^ 60 then some (.agg (h.add t).l) else none
    | none=>none
  | _=>none
theorem gAdd_eq {h:HS} {t:List UInt8} (hb:h.b.length=64) (hn:h.n+t.length < 2 ^ 60):gAdd [.agg h.l,.str t]=some (.agg (h.add t).l):=by
  simp only [gAdd]
  rw [unHS_l hb]
  simp only
  rw [if_pos ⟨hb,hn⟩]
def tabAdd:Tab:=⟨[(71,gAdd)],[]⟩
theorem tabAdd_ok:TabX Tryz.prog tH tabAdd:=by
  refine ⟨fun x h args r hr=>?_,fun x h=>by simp [tabAdd] at h⟩
  simp only [tabAdd,List.mem_singleton] at h
  subst h
  simp only at hr
  unfold gAdd at hr
  split at hr
  · split at hr
    · rename_i h hh
      split at hr
      · rename_i hc
        cases hr
        rw [unHS_some hh]
        exact ⟨f53 h _ hc.1 hc.2,fun η=>by simp only [SV.renL,SV.ren,HS.l_ren],fun η=>by simp only [SV.renL,SV.ren,HS.l_ren]⟩
      · cases hr
    · cases hr
  · cases hr
def padQ (n i:Nat):List UInt8:=padA [] (padZ n)++(List.range i).map (lenB n)
theorem padQ_len (n i:Nat):(padQ n i).length=1+padZ n+i:=by simp [padQ,padA_len]
theorem padQ_z (n:Nat):padQ n 0=padA [] (padZ n):=by simp [padQ]
theorem padQ_step (n i:Nat):padQ n i++[lenB n i]=padQ n (i+1):=by
  unfold padQ
  rw [List.append_assoc,List.range_succ,List.map_append];rfl
theorem padQ_all (n:Nat):padQ n 8=padS n:=by simp [padQ,padA,padS,lenBs]
def outC (s:V8) (i:Nat):List SV:=bys ((List.range i).map (outB s))++List.replicate (32 - i) (.int .u8 0)
def z32:List SV:=List.replicate 32 (.int .u8 0)
theorem outC_z (s:V8):outC s 0=z32:=rfl
theorem outC_len {s:V8} {i:Nat} (h:i≤32):(outC s i).length=32:=by simp [outC,len_bytes];omega
theorem outC_all (s:V8):outC s 32=bys (outS s):=by simp [outC,outS]
theorem outC_put {s:V8} {i:Nat} (h:i < 32):splice (outC s i) i [SV.int .u8 (IntKind.u8.wrap ((s.l.getD (i / 4) 0).fdiv (2 ^ (min (24 - 8 * (i % 4)) IntKind.u32.bits))))]=outC s (i+1):=by
  rw [wrapB_sv]
  unfold outC
  rw [show (32 - i)=(32 - (i+1))+1 by omega,List.replicate_succ]
  have:=splice_app (a:=bys ((List.range i).map (outB s))) (b:=[.int .u8 0]) (c:=List.replicate (32 - (i+1)) (.int .u8 0)) (k:=i) (d:=[SV.byte (outB s i)]) (by simp [len_bytes]) rfl
  simp only [List.cons_append,List.nil_append] at this
  unfold outB at this ⊢
  rw [this,List.range_succ,List.map_append,← bytes_app,List.append_assoc]
  rfl
theorem outC_flat {s:V8} {i:Nat}:SV.flatL (outC s i)=true:=by
  unfold outC
  refine flatL_app (flat_bytes _) ?_
  generalize 32 - i=k
  induction k with
  | zero=>rfl
  | succ k ih=>rw [List.replicate_succ];simp only [SV.flatL,SV.flat,Bool.true_and];exact ih
theorem outC_ren (η:Nat→Nat × Nat) (s:V8) (i:Nat):SV.renL η (outC s i)=outC s i:=SV.flatL_ren η _ outC_flat
set_option maxHeartbeats 4000000 in
theorem f54 (h:HS) (hb:h.b.length=64) (hn:h.n < 2 ^ 58):Fun Tryz.prog tH 72 [.agg h.l] [] 0 (.agg (bys (outS (h.add (padS h.n)).s))) [] 0:=by
  refine fun_pure none (callX tabAdd) (callX_ok tabAdd_ok) chk54 (show 1≤58 by decide) (fun η=>by simp only [SV.ren,ren_bytes]) ?_
  unfold sf54 om oq ov
  have hl:=HS.l_len hb
  have ht:=HS.l_take hb
  have hg:=HS.l_n hb
  have rH:∀ η (h:HS),SV.renL η h.l=h.l:=HS.l_ren
  have e0:[SV.int .u8 128]=bys (padA [] 0):=rfl
  simp (config:={ maxSteps:=1000000 }) only [tabAdd,hg,reduceCtorEq,Nat.reduceEqDiff,Nat.reduceAdd,eq_self,frOf,↓reduceIte,↓binI,↓fillE,Opd.ev,Sx.get,put,putO,del,dels,rd,splice,SV.cells?,SV.one,BB,↓PB]
  rw [e0]
  rw [den_loop]
  have hz:∀ η,SV.renL η z32=z32:=fun η=>outC_ren η h.s 0
  have hzl:z32.length=32:=rfl
  have es:∀ j,bys (padA [] j)++[SV.int .u8 0]=bys (padA [] (j+1)):=fun j=>by rw [← padA_step,← bytes_app];rfl
  have wn:IntKind.i64.wrap (h.n:Int)=(h.n:Int):=wrap64_eq (by omega) (by omega)
  generalize hN:IntKind.u64.wrap (8 * (h.n:Int))=N
  have hpz:=padZ_le h.n
  refine den_inv (callX_ok tabAdd_ok) (σ:=Nat) (fun j=>[(4,.slc 2 0 1 (1+j) none),(3,.int .u64 N),(2,.ptr 1 0),(1,.ptr 0 0)]) (fun j=>[(2,⟨.own 5,bys (padA [] j)⟩),(1,⟨.own 121,z32⟩),(0,⟨.own 118,h.l⟩)]) (fun _=>3)
    (fun j=>j≤padZ h.n) (fun j=>padZ h.n - j) 0 ?_ (Nat.zero_le _) ?_
  · exact ⟨[(0,0),(1,0),(2,0)],by simp only [rH,hz,EntM,compat,apartM,keysBelow,eta,idHs,rd,Nat.reduceAdd,Nat.reduceSub,Nat.reduceLT,Nat.reduceLeDiff,↓reduceIte,Kind.isOwn,exists_eq_left',ne_eq,implies_true,false_imp_iff,forall_const,reduceCtorEq,forall_eq_or_imp,forall_eq,BB] <;> rfl,by simp [frEnt,geto,eta,SV.ren,Nat.reduceAdd,Nat.reduceEqDiff,Nat.reduceLT,Nat.reduceLeDiff,↓reduceIte,BB]⟩
  · intro j hj
    have wj:IntKind.i64.wrap ((h.n:Int)+((1+j:Nat):Int))=((h.n+(1+j):Nat):Int):=by rw [wrap64_eq (by omega) (by omega)];omega
    have r1:Int.tmod ((h.n+(1+j):Nat):Int) 64=(((h.n+(1+j)) % 64:Nat):Int):=(Int.ofNat_tmod _ 64).symm
    have tk:List.take (1+j) (bys (padA [] j))=bys (padA [] j):=List.take_of_length_le (by rw [len_bytes,padA_len];simp)
    have ln:(padA [] j).length=1+j:=by rw [padA_len];simp
    by_cases hj2:j < padZ h.n
    · have c:((((h.n+(1+j)) % 64:Nat):Int) != 56)=true:=by
        have:=padZ_not hj2
        simp;omega
      simp (config:={ maxSteps:=1000000 }) only [hg,wn,wj,r1,c,tk,ln,es,reduceCtorEq,Nat.reduceEqDiff,Nat.reduceAdd,Int.reduceNe,eq_self,↓reduceIte,↓binI,↓fillE,Opd.ev,Sx.get,put,putO,del,dels,rd,rm,splice,SV.cells?,SV.one,BB,↓PB]
      exact ⟨by omega,by omega,j+1,⟨[(0,0),(1,0),(4,0)],by simp only [rH,hz,EntM,compat,apartM,keysBelow,eta,idHs,rd,Nat.reduceAdd,Nat.reduceSub,Nat.reduceEqDiff,Nat.reduceLT,Nat.reduceLeDiff,↓reduceIte,Kind.isOwn,exists_eq_left',ne_eq,implies_true,false_imp_iff,forall_const,reduceCtorEq,forall_eq_or_imp,forall_eq,BB],by simp [Nat.add_assoc,frEnt,geto,eta,SV.ren,Nat.reduceAdd,Nat.reduceEqDiff,Nat.reduceLT,Nat.reduceLeDiff,↓reduceIte,BB]⟩,by omega,by omega⟩
    · obtain rfl:j=padZ h.n:=by omega
      have c:((((h.n+(1+padZ h.n)) % 64:Nat):Int) != 56)=false:=by
        have:=padZ_ok h.n
        simp;omega
      simp (config:={ maxSteps:=1000000 }) only [hg,wn,wj,r1,c,reduceCtorEq,Nat.reduceEqDiff,Int.reduceNe,eq_self,↓reduceIte,↓binI,Opd.ev,Sx.get,put,putO,del,dels,rd,BB,↓PB]
      rw [den_loop,← padQ_z]
      refine den_inv (callX_ok tabAdd_ok) (σ:=Nat) (fun i=>[(23,.int .i64 (i:Int)),(4,.slc 2 0 1 (1+padZ h.n+i) none),(3,.int .u64 N),(2,.ptr 1 0),(1,.ptr 0 0)]) (fun i=>[(2,⟨.own 5,bys (padQ h.n i)⟩),(1,⟨.own 121,z32⟩),(0,⟨.own 118,h.l⟩)]) (fun _=>3)
        (fun i=>i≤8) (fun i=>8 - i) 0 ?_ (Nat.zero_le _) ?_
      · exact ⟨[(0,0),(1,0),(2,0)],by simp only [rH,hz,EntM,compat,apartM,keysBelow,eta,idHs,rd,Nat.reduceAdd,Nat.reduceSub,Nat.reduceLT,Nat.reduceLeDiff,↓reduceIte,Kind.isOwn,exists_eq_left',ne_eq,implies_true,false_imp_iff,forall_const,reduceCtorEq,forall_eq_or_imp,forall_eq,BB],by simp [frEnt,geto,eta,SV.ren,Nat.reduceAdd,Nat.reduceEqDiff,Nat.reduceLT,Nat.reduceLeDiff,↓reduceIte,BB]⟩
      · intro i hi
        have tk2:List.take (1+padZ h.n+i) (bys (padQ h.n i))=bys (padQ h.n i):=List.take_of_length_le (by rw [len_bytes,padQ_len];omega)
        have ln2:(padQ h.n i).length=1+padZ h.n+i:=padQ_len h.n i
        by_cases h8:i < 8
        · have c1:(i:Int) < 8:=by omega
          have v1:IntKind.i64.wrap (8 * (i:Int))=((8 * i:Nat):Int):=by rw [wrap64_eq (by omega) (by omega)];omega
          have v2:IntKind.i64.wrap (56 - ((8 * i:Nat):Int))=((56 - 8 * i:Nat):Int):=by rw [wrap64_eq (by omega) (by omega)];omega
          have v3:(0:Int)≤((56 - 8 * i:Nat):Int):=by omega
          have v4:IntKind.i64.wrap ((i:Int)+1)=((i+1:Nat):Int):=by rw [wrap64_eq (by omega) (by omega)];omega
          have eb:bys (padQ h.n i)++[SV.int .u8 (IntKind.u8.wrap (N.fdiv (2 ^ (min (56 - 8 * i) IntKind.u64.bits))))]=bys (padQ h.n (i+1)):=by
            rw [← padQ_step,← bytes_app1,wrapB_sv]
            unfold lenB
            rw [hN]
          simp (config:={ maxSteps:=1000000 }) only [c1,v1,v2,v3,v4,tk2,ln2,eb,reduceCtorEq,Nat.reduceEqDiff,Nat.reduceAdd,eq_self,↓reduceIte,↓binI,↓fillE,Opd.ev,Sx.get,put,putO,del,dels,rd,rm,splice,SV.cells?,SV.one,BB,↓PB]
          exact ⟨by omega,by omega,i+1,⟨[(0,0),(1,0),(4,0)],by simp only [rH,hz,EntM,compat,apartM,keysBelow,eta,idHs,rd,Nat.reduceAdd,Nat.reduceSub,Nat.reduceEqDiff,Nat.reduceLT,Nat.reduceLeDiff,↓reduceIte,Kind.isOwn,exists_eq_left',ne_eq,implies_true,false_imp_iff,forall_const,reduceCtorEq,forall_eq_or_imp,forall_eq,BB],by simp [Nat.add_assoc,frEnt,geto,eta,SV.ren,Nat.reduceAdd,Nat.reduceEqDiff,Nat.reduceLT,Nat.reduceLeDiff,↓reduceIte,BB]⟩,by omega,by omega⟩
        · obtain rfl:i=8:=by omega
          have hadd:=gAdd_eq (h:=h) (t:=padS h.n) hb (by rw [padS_len];omega)
          rw [padQ_all]
          have hpl:(padS h.n).length=1+padZ h.n+8:=by rw [padS_len];omega
          have tk3:List.take (1+padZ h.n+8) (bys (padS h.n))=bys (padS h.n):=List.take_of_length_le (by rw [len_bytes];omega)
          have hb2:(h.add (padS h.n)).b.length=64:=by rw [HS.add_len,hb]
          have ht2:=HS.l_take hb2
          have hl2:=HS.l_len hb2
          have hfl:=HS.l_flat h
          have hfl2:=HS.l_flat (h.add (padS h.n))
          have hsp:splice h.l 0 (h.add (padS h.n)).l=(h.add (padS h.n)).l:=by
            have:=splice_app (a:=[]) (b:=h.l) (c:=[]) (k:=0) (d:=(h.add (padS h.n)).l) rfl (by rw [hl,hl2])
            simpa using this
          have mb:=map_byteOf (padS h.n)
          have au:=all_isU8 (padS h.n)
          simp (config:={ maxSteps:=1000000 }) only [hl,ht,tk3,hpl,↓hadd,hfl,hfl2,hl2,hsp,mb,au,SV.flatL,SV.flat,lookF,reduceCtorEq,Nat.reduceEqDiff,Nat.reduceAdd,Int.reduceLT,eq_self,↓reduceIte,↓binI,Opd.ev,Sx.get,put,putO,del,dels,rd,upd,SV.cells?,BB,↓PB]
          rw [den_loop]
          generalize hge:h.add (padS h.n)=g at *
          refine den_inv (callX_ok tabAdd_ok) (σ:=Nat) (fun i=>[(40,.int .i64 (i:Int)),(6,.ptr 2 0),(2,.ptr 1 0),(1,.ptr 0 0)]) (fun i=>[(2,⟨.own 121,outC g.s i⟩),(1,⟨.own 121,z32⟩),(0,⟨.own 118,g.l⟩)]) (fun _=>3)
            (fun i=>i≤32) (fun i=>32 - i) 0 ?_ (Nat.zero_le _) ?_
          · exact ⟨[(0,0),(1,0),(3,0)],by simp only [rH,hz,outC_z,EntM,compat,apartM,keysBelow,eta,idHs,rd,Nat.reduceAdd,Nat.reduceSub,Nat.reduceEqDiff,Nat.reduceLT,Nat.reduceLeDiff,↓reduceIte,Kind.isOwn,exists_eq_left',ne_eq,implies_true,false_imp_iff,forall_const,reduceCtorEq,forall_eq_or_imp,forall_eq,BB] <;> rfl,by simp [frEnt,geto,eta,SV.ren,Nat.reduceAdd,Nat.reduceEqDiff,Nat.reduceLT,Nat.reduceLeDiff,↓reduceIte,BB]⟩
          · intro i hi
            have rC:∀ η i,SV.renL η (outC g.s i)=outC g.s i:=fun η i=>outC_ren η g.s i
            have lC:=outC_len (s:=g.s) hi
            by_cases h32:i < 32
            · have c1:(i:Int) < 32:=by omega
              have c2:(0:Int)≤(i:Int):=by omega
              have q1:Int.tdiv (i:Int) 4=((i / 4:Nat):Int):=(Int.ofNat_tdiv i 4).symm
              have q2:Int.tmod (i:Int) 4=((i % 4:Nat):Int):=(Int.ofNat_tmod i 4).symm
              have q3:IntKind.i64.wrap ((i / 4:Nat):Int)=((i / 4:Nat):Int):=wrap64_eq (by omega) (by omega)
              have q4:(0:Int)≤((i / 4:Nat):Int)∧((i / 4:Nat):Int) < 8:=by omega
              have hs:=HS.l_s (h:=g) (q:=i / 4) (by omega)
              have v1:IntKind.i64.wrap (8 * ((i % 4:Nat):Int))=((8 * (i % 4):Nat):Int):=by rw [wrap64_eq (by omega) (by omega)];omega
              have v2:IntKind.i64.wrap (24 - ((8 * (i % 4):Nat):Int))=((24 - 8 * (i % 4):Nat):Int):=by rw [wrap64_eq (by omega) (by omega)];omega
              have v3:(0:Int)≤((24 - 8 * (i % 4):Nat):Int):=by omega
              have v4:IntKind.i64.wrap ((i:Int)+1)=((i+1:Nat):Int):=by rw [wrap64_eq (by omega) (by omega)];omega
              have op:=outC_put (s:=g.s) h32
              simp (config:={ maxSteps:=1000000 }) only [c1,c2,q1,q2,q3,q4.1,q4.2,hs,v1,v2,v3,v4,lC,op,reduceCtorEq,Nat.reduceEqDiff,Nat.reduceLeDiff,Int.reduceNe,eq_self,↓reduceIte,↓binI,Opd.ev,Sx.get,put,putO,del,dels,rd,upd,SV.cells?,SV.one,BB,↓PB]
              exact ⟨by omega,i+1,⟨[(0,0),(1,0),(2,0)],by simp only [rH,hz,rC,EntM,compat,apartM,keysBelow,eta,idHs,rd,Nat.reduceAdd,Nat.reduceSub,Nat.reduceLT,Nat.reduceLeDiff,↓reduceIte,Kind.isOwn,exists_eq_left',ne_eq,implies_true,false_imp_iff,forall_const,reduceCtorEq,forall_eq_or_imp,forall_eq,BB],by simp [frEnt,geto,eta,SV.ren,Nat.reduceAdd,Nat.reduceEqDiff,Nat.reduceLT,Nat.reduceLeDiff,↓reduceIte,BB]⟩,by omega,by omega⟩
            · obtain rfl:i=32:=by omega
              simp (config:={ maxSteps:=1000000 }) only [lC,reduceCtorEq,Nat.reduceEqDiff,Int.reduceLT,eq_self,↓reduceIte,↓binI,↓evRes,Opd.ev,Sx.get,put,putO,del,dels,rd,upd,SV.cells?,retOf,BB,↓PB]
              have tC:List.take 32 (outC g.s 32)=outC g.s 32:=List.take_of_length_le (by omega)
              have sC:splice z32 0 (outC g.s 32)=outC g.s 32:=by
                have:=splice_app (a:=[]) (b:=z32) (c:=[]) (k:=0) (d:=outC g.s 32) rfl (by rw [lC,hzl])
                simpa using this
              rw [tC,sC,tC]
              exact ⟨lC,by omega,by omega,outC_all g.s⟩
def gSum:List SV→Option SV
  | [.agg l]=>match unHS l with
    | some h=>if h.b.length=64∧h.n < 2 ^ 58 then some (.agg (bys (outS (h.add (padS h.n)).s))) else none
    | none=>none
  | _=>none
theorem gSum_eq {h:HS} (hb:h.b.length=64) (hn:h.n < 2 ^ 58):gSum [.agg h.l]=some (.agg (bys (outS (h.add (padS h.n)).s))):=by
  simp only [gSum]
  rw [unHS_l hb]
  simp only
  rw [if_pos ⟨hb,hn⟩]
def gBeg:List SV→Option SV
  | []=>some (.agg hs0.l)
  | _=>none
def tabStr:Tab:=⟨[(70,gBeg),(71,gAdd),(72,gSum)],[]⟩
theorem tabStr_ok:TabX Tryz.prog tH tabStr:=by
  refine ⟨fun x h args r hr=>?_,fun x h=>by simp [tabStr] at h⟩
  simp only [tabStr,List.mem_cons,List.not_mem_nil,or_false] at h
  rcases h with rfl | rfl | rfl
  · simp only at hr
    unfold gBeg at hr
    split at hr
    · cases hr
      exact ⟨f52,fun η=>by simp only [SV.renL],fun η=>by simp only [SV.renL,SV.ren,HS.l_ren]⟩
    · cases hr
  · exact tabAdd_ok.p (71,gAdd) (by simp [tabAdd]) args r hr
  · simp only at hr
    unfold gSum at hr
    split at hr
    · split at hr
      · rename_i h hh
        split at hr
        · rename_i hc
          cases hr
          rw [unHS_some hh]
          exact ⟨f54 h hc.1 hc.2,fun η=>by simp only [SV.renL,SV.ren,HS.l_ren],fun η=>by simp only [SV.renL,SV.ren,ren_bytes]⟩
        · cases hr
      · cases hr
    · cases hr
end Go.Proofs.YtkfbkooobfepeaaGreatDoor

/- Package wire: the encoding of an integer. -/
namespace Go.Proofs.YtkfbkooobfepeaaGreatDoor
open Go Go.Sx Sf
set_option maxRecDepth 100000
set_option linter.unusedVariables false
variable {tS:List (Nat × List SV)}
def nth8 (m:Int) (i:Nat):Int:=m.fdiv (2 ^ (min (8 * i) IntKind.u64.bits))
def topK (m:Int):Nat→Nat
  | 0=>0
  | k+1=>if nth8 m k > 0 then k+1 else topK m k
theorem topK_le (m:Int):∀ k,topK m k≤k
  | 0=>Nat.le_refl _
  | k+1=>by unfold topK;split;exact Nat.le_refl _;exact Nat.le_succ_of_le (topK_le m k)
def encTail (m f:Int):Nat→List UInt8
  | 0=>[]
  | i+1=>flipB (IntKind.u8.wrap (nth8 m i)) f :: encTail m f i
theorem encTail_len (m f:Int):∀ i,(encTail m f i).length=i
  | 0=>rfl
  | i+1=>by simp [encTail,encTail_len m f i]
def encHd (f:Int) (k:Nat):UInt8:=flipB (IntKind.u8.wrap (128+(k:Int))) f
def encM (n:Int):Int:=if n < 0 then bitop .xor .u64 (if IntKind.u64.signed then -1 else IntKind.u64.max) (IntKind.u64.wrap n) else IntKind.u64.wrap n
def encF (n:Int):Int:=if n < 0 then 255 else 0
def encI (n:Int):List UInt8:=encHd (encF n) (topK (encM n) 8) :: encTail (encM n) (encF n) (topK (encM n) 8)
theorem encI_len (n:Int):(encI n).length≤9:=by
  simp only [encI,List.length_cons,encTail_len]
  have:=topK_le (encM n) 8
  omega

def rB (l:List UInt8) (i:Nat):SV:=.slc i 0 1 l.length none
set_option maxHeartbeats 4000000 in
theorem f34 (n:Int):Fun Tryz.prog tS 44 [.int .i64 n] [] 0 (.slc 0 0 1 (encI n).length none) [(0,⟨.own 5,bys (encI n)⟩)] 1:=by
  refine fun_any none cF cF_ok chk34 (show 1≤47 by decide) (Nat.zero_le _) ?_
  unfold sf34 om oq
  have hlen:=encI_len n
  have hren:=fun η b=>ren_bytes η b
  have key:(bitop .xor .u64 (if IntKind.u64.signed then -1 else IntKind.u64.max) (IntKind.u64.wrap n)=encM n∧(255:Int)=encF n∧n < 0)∨(IntKind.u64.wrap n=encM n∧(0:Int)=encF n∧¬ n < 0):=by
    by_cases hn:n < 0
    · left;simp only [encM,encF,hn,if_true];trivial
    · right;simp only [encM,encF,hn,if_false];trivial
  rcases key with ⟨k1,k2,hn⟩ | ⟨k1,k2,hn⟩
  all_goals
    simp (config:={ maxSteps:=1000000 }) only [hn,k1,reduceCtorEq,Nat.reduceEqDiff,Int.reduceNeg,↓reduceIte,BC,↓PC]
    generalize hm:encM n=m at *
    generalize hf:encF n=f at *
    rw [den_loop]
    refine den_inv cF_ok (σ:=Nat) (fun k=>[(5,.int .i64 (k:Int)),(4,.int .u8 f),(3,.int .u64 m)]) (fun _=>[]) (fun _=>0)
      (fun k=>k≤8∧topK m k=topK m 8) (fun k=>k) 8 ⟨[],by simp [BC],by simp [← k2,Nat.reduceEqDiff,↓reduceIte,BC]⟩ ⟨Nat.le_refl _,rfl⟩ ?_
    rintro k ⟨hk8,hk⟩
    have step:(k=0∨(0 < k∧nth8 m (k - 1) > 0))∨(0 < k∧¬ nth8 m (k - 1) > 0):=by
      by_cases h0:k=0
      · exact .inl (.inl h0)
      · by_cases h1:nth8 m (k - 1) > 0
        · exact .inl (.inr ⟨by omega,h1⟩)
        · exact .inr ⟨by omega,h1⟩
    have hI:encHd f (topK m 8) :: encTail m f (topK m 8)=encI n:=by unfold encI;rw [hm,hf]
    have w3:0 < k→IntKind.i64.wrap (8 * ((k:Int) - 1))=((8 * (k - 1):Nat):Int):=fun h=>by rw [wrap64_eq (by omega) (by omega)];omega
    have w1:IntKind.i64.wrap (128+(k:Int))=128+(k:Int):=wrap64_eq (by omega) (by omega)
    have w2:IntKind.i64.wrap ((k:Int) - 1)=(k:Int) - 1:=wrap64_eq (by omega) (by omega)
    rcases step with hx | ⟨h0,h1⟩
    · have hkK:topK m 8=k:=by
        rw [← hk]
        rcases hx with rfl | ⟨h0,h1⟩
        · rfl
        · obtain ⟨j,rfl⟩:∃ j,k=j+1:=⟨k - 1,by omega⟩
          simp only [Nat.add_sub_cancel] at h1
          unfold topK
          rw [if_pos h1]
      rw [hkK] at hI
      have hb:SV.int .u8 (bitop .xor .u8 (IntKind.u8.wrap (128+(k:Int))) f)=SV.byte (encHd f k):=flipB_sv _ _
      rcases hx with h0 | ⟨h0,h1⟩
      case' inl=>
        have g0:¬ (k:Int) > 0:=by omega
        simp (config:={ maxSteps:=1000000 }) only [w1,w2,g0,Nat.reduceEqDiff,↓reduceIte,splice,BC,↓PC]
      case' inr=>
        have g0:(k:Int) > 0:=by omega
        have g1:(0:Int)≤((8 * (k - 1):Nat):Int):=by omega
        have g2:m.fdiv (2 ^ (min (8 * (k - 1)) IntKind.u64.bits)) > 0:=h1
        simp (config:={ maxSteps:=1000000 }) only [w1,w2,w3 h0,g0,g1,g2,reduceCtorEq,Nat.reduceEqDiff,↓reduceIte,splice,BC,↓PC]
      all_goals
        rw [den_loop]
        refine den_inv cF_ok (σ:=Nat × List UInt8) (fun s=>[(7,.int .i64 ((s.1:Int) - 1)),(6,.slc 0 0 1 s.2.length none),(4,.int .u8 f),(3,.int .u64 m)])
          (fun s=>[(0,⟨.own 5,bys s.2⟩)]) (fun _=>1) (fun s=>s.1≤k∧s.2++encTail m f s.1=encI n) (fun s=>s.1) (k,[encHd f k]) ⟨[(0,0)],by simp [hb,↓reduceIte,BC],by simp [Nat.reduceEqDiff,↓reduceIte,BC]⟩ ⟨Nat.le_refl _,hI⟩ ?_
        rintro ⟨i,pre⟩ ⟨hi,hpre⟩
        simp only at hi hpre
        have v2:IntKind.i64.wrap ((i:Int) - 1 - 1)=(i:Int) - 1 - 1:=wrap64_eq (by omega) (by omega)
        have hl:=congrArg List.length hpre
        simp only [List.length_append,encTail_len] at hl
        by_cases hi0:i=0
        · have q0:¬ (i:Int) - 1 ≥ 0:=by omega
          subst hi0
          simp only [encTail,List.append_nil] at hpre
          subst hpre
          simp (config:={ maxSteps:=1000000 }) only [Int.reduceGE,Nat.reduceEqDiff,Int.reduceSub,Int.reduceNeg,↓reduceIte,BC,↓PC]
          exact ⟨[(0,0)],by simp [↓reduceIte,BC],by simp [eta,SV.ren,BB]⟩
        · have q0:(i:Int) - 1 ≥ 0:=by omega
          have v3:IntKind.i64.wrap (8 * ((i:Int) - 1))=((8 * (i - 1):Nat):Int):=by rw [wrap64_eq (by omega) (by omega)];omega
          have q1:(0:Int)≤((8 * (i - 1):Nat):Int):=by omega
          have hb2:SV.int .u8 (bitop .xor .u8 (IntKind.u8.wrap (m.fdiv (2 ^ (min (8 * (i - 1)) IntKind.u64.bits)))) f)=SV.byte (flipB (IntKind.u8.wrap (nth8 m (i - 1))) f):=flipB_sv _ _
          simp (config:={ maxSteps:=1000000 }) only [v2,v3,q0,q1,reduceCtorEq,Nat.reduceEqDiff,Nat.reduceAdd,↓reduceIte,splice,BC,↓PC]
          rw [hb2,bytes_app1]
          have hc:encTail m f i=flipB (IntKind.u8.wrap (nth8 m (i - 1))) f :: encTail m f (i - 1):=by
            obtain ⟨j,rfl⟩:∃ j,i=j+1:=⟨i - 1,by omega⟩
            rfl
          rw [hc,← List.singleton_append,← List.append_assoc] at hpre
          have hci:((i - 1:Nat):Int)=(i:Int) - 1:=by omega
          exact ⟨by omega,by omega,(i - 1,_),⟨[(2,0)],by simp [↓reduceIte,BC],by simp [hci,Nat.reduceEqDiff,↓reduceIte,BC]⟩,⟨by omega,hpre⟩,by simp only;omega⟩
    · have g0:(k:Int) > 0:=by omega
      have w2:IntKind.i64.wrap ((k:Int) - 1)=((k - 1:Nat):Int):=by rw [w2];omega
      have w3:IntKind.i64.wrap (8 * ((k - 1:Nat):Int))=((8 * (k - 1):Nat):Int):=by rw [wrap64_eq (by omega) (by omega)];omega
      have g1:(0:Int)≤((8 * (k - 1):Nat):Int):=by omega
      have g2:¬ m.fdiv (2 ^ (min (8 * (k - 1)) IntKind.u64.bits)) > 0:=h1
      simp (config:={ maxSteps:=1000000 }) only [w2,w3,g0,g1,g2,Nat.reduceEqDiff,↓reduceIte,BC,↓PC]
      refine ⟨k - 1,⟨[],by simp [BC],by simp [Nat.reduceEqDiff,↓reduceIte,BC]⟩,⟨by omega,?_⟩,by omega⟩
      rw [← hk]
      obtain ⟨j,rfl⟩:∃ j,k=j+1:=⟨k - 1,by omega⟩
      simp only [Nat.add_sub_cancel] at h1 ⊢
      rw [topK,if_neg h1]
def gInt:GS
  | [.int .i64 n],[]=>some (.slc 0 0 1 (encI n).length none,[(0,⟨.own 5,bys (encI n)⟩)],1)
  | _,_=>none
theorem gInt_ok:FunS Tryz.prog tS 44 gInt:=by
  intro a0 m0 r m1 n1 h
  unfold gInt at h
  split at h
  · cases h;exact ⟨f34 _,by simp [freshB]⟩
  · cases h
end Go.Proofs.YtkfbkooobfepeaaGreatDoor

/- Package wire: the encodings of lists of integers and of texts; likewise of the reference. -/
namespace Go.Proofs.YtkfbkooobfepeaaGreatDoor
open Go Go.Sx Sf
set_option maxRecDepth 100000
set_option linter.unusedVariables false
variable {tS:List (Nat × List SV)}
def tabA:List (FuncId × GS):=[(44,gInt)]
theorem tabA_ok:∀ x ∈ tabA,FunS Tryz.prog tS x.1 x.2:=by
  intro x hx
  simp only [tabA,List.mem_cons,List.not_mem_nil,or_false] at hx
  rcases hx with rfl
  exact gInt_ok
def encL:List Int→List UInt8
  | []=>[]
  | x :: l=>encI x++encL l
theorem encL_len:∀ l,(encL l).length≤9 * l.length
  | []=>Nat.le_refl _
  | x :: l=>by
    have:=encL_len l
    have:=encI_len x
    simp only [encL,List.length_append,List.length_cons];omega
def encIs (l:List Int):List UInt8:=encI l.length++encL l

theorem f31 (l:List Int) (hl:l.length≤1000) (cap:Option Nat) :
    Fun Tryz.prog tS 21 [.slc 0 0 1 l.length cap] [(0,⟨.view,ints l⟩)] 1 (.slc 1 0 1 (encIs l).length none) [(1,⟨.own 5,bys (encIs l)⟩)] 2:=by
  refine fun_any none (callS tabA cF) (callS_ok tabA_ok cF_ok) chk31 (show 1≤21 by decide) (by decide) ?_
  unfold sf31 om oq
  have hL:=encL_len l
  have hI:=encI_len l.length
  have hT:(encIs l).length≤9 * (l.length+1):=by unfold encIs;simp;omega
  simp (config:={ maxSteps:=1000000 }) only [tabA,gInt,reduceCtorEq,Nat.reduceEqDiff,Nat.reduceAdd,↓reduceIte,BC,↓PC]
  rw [den_loop]
  refine den_inv (callS_ok tabA_ok cF_ok) (σ:=Nat × List UInt8) (fun s=>[(11,.int .i64 (s.1:Int)),(10,.int .i64 (l.length:Int)),(9,.slc 0 0 1 l.length cap),(3,.slc 1 0 1 s.2.length none)])
    (fun s=>[(1,⟨.own 5,bys s.2⟩),(0,⟨.view,ints l⟩)]) (fun _=>2) (fun s=>s.1≤l.length∧s.2++encL (l.drop s.1)=encIs l) (fun s=>l.length - s.1) (0,encI l.length) ?_ ⟨Nat.zero_le _,rfl⟩ ?_
  · exact ⟨[(0,0),(1,0)],by simp [Nat.reduceAdd,Nat.reduceLeDiff,↓reduceIte,BC],by simp [Nat.reduceAdd,Nat.reduceEqDiff,Nat.reduceLeDiff,↓reduceIte,BC]⟩
  · rintro ⟨i,pre⟩ ⟨hi,hpre⟩
    simp only at hi hpre
    have hlen:=congrArg List.length hpre
    simp only [List.length_append] at hlen
    by_cases h:i < l.length
    · have c1:(i:Int) < (l.length:Int):=by omega
      have c2:(0:Int)≤(i:Int):=by omega
      have wi:IntKind.i64.wrap ((i:Int)+1)=((i+1:Nat):Int):=by rw [wrap64_eq (by omega) (by omega)];omega
      obtain ⟨x,hx⟩:∃ x,l[i]?=some x:=⟨_,List.getElem?_eq_getElem h⟩
      have hd:l.drop i=x :: l.drop (i+1):=by
        rw [List.drop_eq_getElem_cons h]
        rw [List.getElem?_eq_getElem h] at hx;cases hx;rfl
      rw [hd] at hpre
      simp only [encL,← List.append_assoc] at hpre
      have hlen2:=congrArg List.length hpre
      simp only [List.length_append] at hlen2
      have gx:=get_ints hx
      simp (config:={ maxSteps:=1000000 }) only [gInt,h,c1,c2,wi,gx,reduceCtorEq,Nat.reduceEqDiff,Nat.reduceAdd,↓reduceIte,BC,↓PC]
      rw [bytes_app]
      exact ⟨by omega,by omega,(i+1,_),⟨[(0,0),(3,0)],by simp [Nat.reduceAdd,Nat.reduceLeDiff,↓reduceIte,reduceCtorEq,BC],by simp [Nat.reduceAdd,Nat.reduceEqDiff,Nat.reduceLeDiff,↓reduceIte,BC]⟩,⟨by simp only;omega,hpre⟩,by simp only;omega⟩
    · obtain rfl:i=l.length:=by omega
      simp only [List.drop_length,encL,List.append_nil] at hpre
      subst hpre
      have c1:¬ (l.length:Int) < (l.length:Int):=by omega
      simp (config:={ maxSteps:=1000000 }) only [c1,Nat.reduceEqDiff,↓reduceIte,BC,↓PC]
      exact ⟨[(0,0),(1,0)],by simp [Nat.reduceAdd,Nat.reduceLeDiff,↓reduceIte,BC],by simp [Nat.reduceAdd,Nat.reduceLeDiff,BB]⟩

def gInts:GS
  | [.slc 0 0 1 len cap],[(0,⟨.view,cells⟩)]=>match unI cells with
    | some l=>if len=l.length then if l.length≤1000 then some (.slc 1 0 1 (encIs l).length none,[(1,⟨.own 5,bys (encIs l)⟩)],2) else none else none
    | none=>none
  | _,_=>none
theorem gInts_ok:FunS Tryz.prog tS 21 gInts:=by
  intro a0 m0 r m1 n1 h
  unfold gInts at h
  split at h
  · split at h
    · rename_i l hl
      split at h
      · split at h
        · rename_i he h1
          cases h
          subst he
          rw [unI_some hl]
          exact ⟨f31 l h1 _,by simp [freshB]⟩
        · cases h
      · cases h
    · cases h
  · cases h

def encS (s:List UInt8):List UInt8:=encI s.length++s
theorem f33 (s:List UInt8) (hs:s.length≤2 ^ 39):Fun Tryz.prog tS 43 [.str s] [] 0 (.slc 0 0 1 (encS s).length none) [(0,⟨.own 5,bys (encS s)⟩)] 1:=by
  refine fun_any none (callS tabA cF) (callS_ok tabA_ok cF_ok) chk33 (show 1≤8 by decide) (by decide) ?_
  unfold sf33 om oq
  have hI:=encI_len s.length
  simp (config:={ maxSteps:=1000000 }) only [tabA,gInt,reduceCtorEq,Nat.reduceEqDiff,Nat.reduceAdd,↓reduceIte,BC,↓PC]
  exact ⟨by omega,by omega,[(1,0)],by simp [encS,bytes_app,↓reduceIte,BC],by simp [encS,BB]⟩
def gBytes:GS
  | [.str s],[]=>if s.length≤2 ^ 39 then some (.slc 0 0 1 (encS s).length none,[(0,⟨.own 5,bys (encS s)⟩)],1) else none
  | _,_=>none
theorem gBytes_ok:FunS Tryz.prog tS 43 gBytes:=by
  intro a0 m0 r m1 n1 h
  unfold gBytes at h
  split at h
  · split at h
    · cases h
      exact ⟨f33 _ (by assumption),by simp [freshB]⟩
    · cases h
  · cases h
end Go.Proofs.YtkfbkooobfepeaaGreatDoor

/- The digest of parts: hash.Of. -/
namespace Go.Proofs.YtkfbkooobfepeaaGreatDoor
open Go Go.Sx Sf
set_option maxRecDepth 100000
set_option linter.unusedVariables false
variable {tS:List (Nat × List SV)}
def strs (ps:List (List UInt8)):List SV:=ps.map SV.str
theorem flat_strs:∀ ps:List (List UInt8),SV.flatL (strs ps)=true
  | []=>rfl
  | p :: ps=>by simp only [strs,List.map_cons,SV.flatL,SV.flat,Bool.true_and];exact flat_strs ps
theorem ren_strs (η:Nat→Nat × Nat) (ps:List (List UInt8)):SV.renL η (strs ps)=strs ps:=SV.flatL_ren η _ (flat_strs ps)
theorem len_strs (ps:List (List UInt8)):(strs ps).length=ps.length:=by simp [strs]
theorem get_strs {ps:List (List UInt8)} {j:Nat} {p:List UInt8} (h:ps[j]?=some p):(strs ps)[j]?=some (.str p):=by simp [strs,h]
theorem gBytes_eq {s:List UInt8} (h:s.length≤2 ^ 39):gBytes [.str s] []=some (.slc 0 0 1 (encS s).length none,[(0,⟨.own 5,bys (encS s)⟩)],1):=by
  simp [gBytes,h]
def ofM (tag:Int) (ps:List (List UInt8)):List UInt8:=wrapB tag :: (ps.map encS).flatten
def ofS (tag:Int) (ps:List (List UInt8)):List UInt8:=(sumS (ofM tag ps)).take 16
theorem ofM_step {tag:Int} {ps:List (List UInt8)} {j:Nat} {p:List UInt8} (h:ps[j]?=some p):ofM tag (ps.take j)++encS p=ofM tag (ps.take (j+1)):=by
  unfold ofM
  rw [List.take_add_one,h]
  simp
theorem flat_le {ps:List (List UInt8)} {j:Nat}:(((ps.take j).map encS).flatten).length≤((ps.map encS).flatten).length:=by
  have:=congrArg (fun l=>((l.map encS).flatten).length) (List.take_append_drop j ps)
  simp only [List.map_append,List.flatten_append,List.length_append] at this
  omega
theorem sumS_len (m:List UInt8):(sumS m).length=32:=outS_len _
theorem ofS_len (tag:Int) (ps:List (List UInt8)):(ofS tag ps).length=16:=by simp [ofS,sumS_len]
theorem splice_all {a b:List SV} (h:b.length=a.length):splice a 0 b=b:=by
  have:=splice_app (a:=[]) (b:=a) (c:=[]) (k:=0) (d:=b) rfl h
  simpa using this
def z16:List SV:=List.replicate 16 (.int .u8 0)
def cOf:CallT:=callS [(43,gBytes)] (callX tabStr)
theorem tabBy_ok:∀ x ∈ [((43:FuncId),gBytes)],FunS Tryz.prog tS x.1 x.2:=by
  intro x hx
  simp only [List.mem_cons,List.not_mem_nil,or_false] at hx
  subst hx
  exact gBytes_ok
theorem cOf_ok:∀ f a m n K,cOf f a m n K→callT Tryz.prog tH f a m n K:=callS_ok tabBy_ok (callX_ok tabStr_ok)
set_option maxHeartbeats 4000000 in
theorem f39 (tag:Int) (ps:List (List UInt8)) (hp:∀ p ∈ ps,p.length≤2 ^ 39) (hT:(ofM tag ps).length < 2 ^ 57) (hk:ps.length < 2 ^ 60) (cap:Option Nat) (hcap:CapOk cap ps.length) :
    Fun Tryz.prog tH 46 [.int .i64 tag,.slc 0 0 1 ps.length cap] [(0,⟨.view,strs ps⟩)] 1 (.agg (bys (ofS tag ps))) [] 1:=by
  refine fun_val none cOf cOf_ok chk39 (show 2≤32 by decide) (fun η=>by simp only [SV.ren,ren_bytes]) ?_
  unfold sf39 oh om oq ov
  have rH:∀ η (h:HS),SV.renL η h.l=h.l:=HS.l_ren
  have hb0:hs0.b.length=64:=rfl
  have hfl:=HS.l_flat
  have g0:gBeg []=some (.agg hs0.l):=rfl
  have l0:=HS.l_len hb0
  have tg:Sx.byteOf (SV.int .u8 (IntKind.u8.wrap tag))=wrapB tag:=rfl
  have ig:isU8 (SV.int .u8 (IntKind.u8.wrap tag))=true:=rfl
  have hlT:(ofM tag ps).length=1+((ps.map encS).flatten).length:=by simp [ofM];omega
  have ga:=gAdd_eq (h:=hs0) (t:=[wrapB tag]) hb0 (by show 0+1 < 2 ^ 60;decide)
  have ll:∀ t,(hs0.add t).l.length=73:=fun t=>HS.l_len (hs0_len t)
  simp (config:={ maxSteps:=1000000 }) only [cOf,tabStr,↓g0,hfl,tg,ig,↓ga,ll,reduceCtorEq,Nat.reduceEqDiff,Nat.reduceAdd,Nat.reduceLeDiff,↓reduceIte,evA,upd,splice,BC,↓PC]
  have m0:hs0.add [wrapB tag]=hs0.add (ofM tag (ps.take 0)):=rfl
  rw [m0,den_loop]
  have rS:∀ η,SV.renL η (strs ps)=strs ps:=fun η=>ren_strs η ps
  have rz:∀ η,SV.renL η z16=z16:=fun η=>SV.flatL_ren η z16 rfl
  refine den_inv cOf_ok (σ:=Nat) (fun j=>[(17,.int .i64 (j:Int)),(16,.int .i64 (ps.length:Int)),(15,.slc 0 0 1 ps.length cap),(5,.ptr 2 0),(4,.ptr 1 0)])
    (fun j=>[(2,⟨.own 118,(hs0.add (ofM tag (ps.take j))).l⟩),(1,⟨.own 23,z16⟩),(0,⟨.view,strs ps⟩)]) (fun _=>3) (fun j=>j≤ps.length) (fun j=>ps.length - j) 0 ?_ (Nat.zero_le _) ?_
  · exact ⟨[(0,0),(1,0),(3,0)],by simp only [rH,rS,rz,Nat.reduceAdd,Nat.reduceSub,Nat.reduceEqDiff,Nat.reduceLT,Nat.reduceLeDiff,↓reduceIte,reduceCtorEq,BC] <;> rfl,by simp [Nat.reduceAdd,Nat.reduceEqDiff,Nat.reduceLT,Nat.reduceLeDiff,↓reduceIte,BC]⟩
  · intro j hj
    have hln:=len_strs ps
    by_cases hj2:j < ps.length
    · obtain ⟨p,hpj⟩:∃ p,ps[j]?=some p:=⟨ps[j],by simp [hj2]⟩
      have hpm:p ∈ ps:=List.mem_of_getElem? hpj
      have gp:=get_strs hpj
      have c1:(j:Int) < (ps.length:Int):=by omega
      have c2:(0:Int)≤(j:Int):=by omega
      have v4:IntKind.i64.wrap ((j:Int)+1)=((j+1:Nat):Int):=by rw [wrap64_eq (by omega) (by omega)];omega
      have gb:=gBytes_eq (hp p hpm)
      have hst:=ofM_step (tag:=tag) hpj
      have hle:(ofM tag (ps.take (j+1))).length≤(ofM tag ps).length:=by
        have:=flat_le (ps:=ps) (j:=j+1)
        simp only [ofM,List.length_cons]
        omega
      have hle2:(ofM tag (ps.take j)).length+(encS p).length=(ofM tag (ps.take (j+1))).length:=by rw [← hst];simp
      have ga2:=gAdd_eq (h:=hs0.add (ofM tag (ps.take j))) (t:=encS p) (hs0_len _) (by rw [hs0_n];omega)
      have l73:=ll (ofM tag (ps.take j))
      have l73':=ll (ofM tag (ps.take (j+1)))
      have t73:∀ t,List.take 73 (hs0.add t).l=(hs0.add t).l:=fun t=>HS.l_take (hs0_len t)
      have sp:splice (hs0.add (ofM tag (ps.take j))).l 0 (hs0.add (ofM tag (ps.take (j+1)))).l=(hs0.add (ofM tag (ps.take (j+1)))).l:=by
        have:=splice_app (a:=[]) (b:=(hs0.add (ofM tag (ps.take j))).l) (c:=[]) (k:=0) (d:=(hs0.add (ofM tag (ps.take (j+1)))).l) rfl (by rw [ll,ll])
        simpa using this
      rw [HS.add_app,hst] at ga2
      have tb:=take_bytes (encS p)
      have mb:=map_byteOf (encS p)
      have au:=all_isU8 (encS p)
      simp (config:={ maxSteps:=1000000 }) only [hln,c1,c2,v4,gp,↓gb,l73,l73',t73,↓ga2,sp,tb,mb,au,hfl,reduceCtorEq,Nat.reduceEqDiff,Nat.reduceAdd,Nat.reduceLeDiff,↓reduceIte,evA,upd,BC,↓PC]
      exact ⟨hj2,j+1,⟨[(0,0),(1,0),(2,0)],by simp only [rH,rS,rz,Nat.reduceAdd,Nat.reduceSub,Nat.reduceEqDiff,Nat.reduceLT,Nat.reduceLeDiff,↓reduceIte,reduceCtorEq,BC],by simp [Nat.reduceAdd,Nat.reduceEqDiff,Nat.reduceLT,Nat.reduceLeDiff,↓reduceIte,BC]⟩,by omega,by omega⟩
    · obtain rfl:j=ps.length:=by omega
      have e1:ps.take ps.length=ps:=List.take_length
      have gs:=gSum_eq (h:=hs0.add (ofM tag ps)) (hs0_len _) (by rw [hs0_n];omega)
      rw [hs0_n,HS.add_app] at gs
      have gs:gSum [.agg (hs0.add (ofM tag ps)).l]=some (.agg (bys (sumS (ofM tag ps)))):=gs
      have hx:(sumS (ofM tag ps)).length=32:=sumS_len _
      generalize hX:sumS (ofM tag ps)=X at *
      have c3:decide ((ps.length:Int) < (ps.length:Int))=false:=by simp
      have ho:ofS tag ps=X.take 16:=by unfold ofS;rw [hX]
      have t16:List.take 16 (bys X)=bys (X.take 16):=by simp [bys,List.map_take]
      have l16:(X.take 16).length=16:=by simp [hx]
      have hxl:(bys X).length=32:=by rw [len_bytes,hx]
      have t73:=HS.l_take (hs0_len (ofM tag ps))
      have l73:=ll (ofM tag ps)
      rw [e1,ho]
      simp (config:={ maxSteps:=1000000 }) only [c3,l73,t73,↓gs,hfl,hxl,reduceCtorEq,Nat.reduceEqDiff,Nat.reduceAdd,Nat.reduceLT,Int.reduceToNat,Int.reduceLE,↓reduceIte,upd,BC,↓PC]
      have sX:∀ z:List SV,z.length=32→splice z 0 (bys X)=bys X:=fun z hz=>splice_all (by rw [hxl,hz])
      have lY:(bys (X.take 16)).length=16:=by rw [len_bytes,l16]
      have sY:splice z16 0 (bys (X.take 16))=bys (X.take 16):=splice_all (by rw [lY];rfl)
      rw [sX,t16,sY,List.take_of_length_le (by omega:(bys (X.take 16)).length≤16)]
      · exact ⟨by omega,by omega,by omega,by decide,by omega,rfl⟩
      · rfl
def unStr:List SV→Option (List (List UInt8))
  | []=>some []
  | .str s :: l=>match unStr l with
    | some r=>some (s :: r)
    | none=>none
  | _=>none
theorem unStr_strs:∀ ps:List (List UInt8),unStr (strs ps)=some ps
  | []=>rfl
  | p :: ps=>by simp only [strs,List.map_cons,unStr];rw [show List.map SV.str ps=strs ps from rfl,unStr_strs ps]
theorem unStr_some:∀ {l:List SV} {ps:List (List UInt8)},unStr l=some ps→l=strs ps
  | [],ps,h=>by simp only [unStr] at h;cases h;rfl
  | x :: l,ps,h=>by
    unfold unStr at h
    split at h
    · rename_i he;cases he
    · rename_i s l' he
      cases he
      split at h
      · rename_i r hr;cases h;rw [unStr_some hr];rfl
      · cases h
    · cases h
def okT (tag:Int) (ps:List (List UInt8)):Prop:=(∀ p ∈ ps,p.length≤2 ^ 39)∧(ofM tag ps).length < 2 ^ 37∧ps.length < 2 ^ 37
instance (tag:Int) (ps:List (List UInt8)):Decidable (okT tag ps):=by unfold okT;infer_instance
def gOf:GS
  | [.int .i64 tag,.slc 0 0 1 len cap],[(0,⟨.view,cells⟩)]=>match unStr cells with
    | some ps=>match capB cap ps.length with
      | true=>if len=ps.length∧okT tag ps then some (.agg (bys (ofS tag ps)),[],1) else none
      | _=>none
    | none=>none
  | _,_=>none
theorem gOf_ok:FunS Tryz.prog tH 46 gOf:=by
  intro a0 m0 r m1 n1 h
  unfold gOf at h
  split at h
  · split at h
    · rename_i ps hps
      split at h
      · rename_i hcap
        split at h
        · rename_i hc
          cases h
          obtain ⟨rfl,h1,h2,h3⟩:=hc
          rw [unStr_some hps]
          exact ⟨f39 _ ps h1 (by omega) (by omega) _ (capB_ok hcap),by simp [freshB]⟩
        · cases h
      · cases h
    · cases h
  · cases h
end Go.Proofs.YtkfbkooobfepeaaGreatDoor

/- The reference's rotation. -/
namespace Go.Proofs.YtkfbkooobfepeaaGreatDoor
open Go Go.Sx Sf
set_option maxRecDepth 100000
set_option linter.unusedSimpArgs false
set_option linter.unusedVariables false
variable {tS:List (Nat × List SV)}
theorem or_comm32 (a b:Int):bitop .or .u32 a b=bitop .or .u32 b a:=by
  unfold bitop
  simp only
  rw [BitVec.or_comm]
theorem f90 (n:Int) (r:Nat) (h1:1≤r) (h2:r≤31):Fun Tryz.prog tS 104 [.int .u32 n,.int .i64 (r:Int)] [] 0 (.int .u32 (rotI n r)) [] 0:=by
  refine fun_any none cF cF_ok chk90 (show 2≤13 by decide) (by decide) ?_
  unfold sf90 oh om
  have c1:(0:Int)≤(r:Int):=by omega
  have w1:IntKind.i64.wrap (32 - (r:Int))=((32 - r:Nat):Int):=by rw [wrap64_eq (by omega) (by omega)];omega
  simp (config:={ maxSteps:=1000000 }) only [c1,w1,Int.reduceGE,Int.reduceGT,undef,Int.reduceBNe,Int.reduceBEq,Nat.reduceBNe,Nat.reduceBEq,eqPat,eqTag,reduceCtorEq,Nat.reduceEqDiff,Nat.reduceAdd,Nat.reduceSub,Nat.reduceMul,Nat.reduceDiv,Nat.reduceLeDiff,Nat.reduceLT,Int.reduceToNat,Int.reduceLT,Int.reduceLE,Int.reduceAdd,Int.reduceSub,Int.reduceMul,Int.reduceNeg,Int.reduceEq,Int.reduceNe,evW,baseD,stBlk,touch,clear,untouched,updsW,↓reduceIte,evA,upd,splice,keysOf,kvOf,BC,↓PC]
  exact ⟨by omega,[],by simp [Nat.reduceAdd,Nat.reduceSub,Nat.reduceEqDiff,Nat.reduceLT,Nat.reduceLeDiff,↓reduceIte,List.forall_mem_cons,reduceCtorEq,Option.some_inj,BC],or_comm32 _ _⟩
def gRotR:List SV→Option SV
  | [.int .u32 n,.int .i64 (.ofNat r)]=>if 1≤r∧r≤31 then some (.int .u32 (rotI n r)) else none
  | _=>none
theorem g90 {n:Int} {r:Nat} (h1:1≤r) (h2:r≤31):gRotR [.int .u32 n,.int .i64 (r:Int)]=some (.int .u32 (rotI n r)):=by
  show gRotR [.int .u32 n,.int .i64 (.ofNat r)]=_
  simp only [gRotR]
  rw [if_pos ⟨h1,h2⟩]
def tabQ9:Tab:=⟨[(104,gRotR)],[]⟩
end Go.Proofs.YtkfbkooobfepeaaGreatDoor

/- The reference's schedule. -/
namespace Go.Proofs.YtkfbkooobfepeaaGreatDoor
open Go Go.Sx Sf
set_option maxRecDepth 100000
set_option linter.unusedVariables false
variable {tS:List (Nat × List SV)}
theorem tabQ9_ok:TabX Tryz.prog tS tabQ9:=by
  refine ⟨fun x h args r hr=>?_,fun x h=>by simp [tabQ9] at h⟩
  simp only [tabQ9,List.mem_singleton] at h
  subst h
  simp only at hr
  unfold gRotR at hr
  split at hr
  · split at hr
    · rename_i hc
      cases hr
      exact ⟨f90 _ _ hc.1 hc.2,fun η=>by simp only [SV.renL,SV.ren],fun η=>by simp only [SV.renL,SV.ren]⟩
    · cases hr
  · cases hr
theorem wrap_w (x:Int):IntKind.u32.wrap x=((BitVec.ofInt 32 x).toNat:Int):=by
  rw [wrapU32,BitVec.toNat_ofInt]
  omega
theorem push_w (w:W32) (x:Int):pushB (w.toNat:Int) x=((w <<< 8 ||| BitVec.ofInt 32 x).toNat:Int):=by
  unfold pushB
  rw [w_shl w 8 (by decide),wrap_w x,w_or]
theorem or4 (x0 x1 x2 x3:Int):bitop .or .u32 (bitop .or .u32 (bitop .or .u32 (IntKind.u32.wrap (IntKind.u32.wrap x0 * 2 ^ (min 24 IntKind.u32.bits))) (IntKind.u32.wrap (IntKind.u32.wrap x1 * 2 ^ (min 16 IntKind.u32.bits))))
    (IntKind.u32.wrap (IntKind.u32.wrap x2 * 2 ^ (min 8 IntKind.u32.bits)))) (IntKind.u32.wrap x3)=pushB (pushB (pushB (pushB 0 x0) x1) x2) x3:=by
  have e0:pushB 0 x0=((((0:W32) <<< 8) ||| BitVec.ofInt 32 x0).toNat:Int):=push_w 0 x0
  rw [e0,push_w,push_w,push_w,wrap_w x0,wrap_w x1,wrap_w x2,wrap_w x3,w_shl _ 24 (by decide),w_shl _ 16 (by decide),w_shl _ 8 (by decide),w_or,w_or,w_or]
  congr 2
  simp [BitVec.shiftLeft_or_distrib,← BitVec.shiftLeft_add]
set_option maxHeartbeats 4000000 in
theorem f89 (b:List Int) (hb:b.length=64) (cap:Option Nat) (hcap:CapOk cap 64):Fun Tryz.prog tS 103 [.slc 0 0 1 64 cap] [(0,⟨.view,b.map u8⟩)] 1 (.agg ((schI b 64).map u32)) [] 1:=by
  refine fun_val none (callX tabQ9) (callX_ok tabQ9_ok) chk89 (show 1≤101 by decide) (fun η=>ren_u32 η _) ?_
  unfold sf89 oh om oq ov
  simp (config:={ maxSteps:=1000000 }) only [tabQ9,reduceCtorEq,Nat.reduceEqDiff,Nat.reduceAdd,↓reduceIte,BC,↓PC]
  rw [den_loop]
  have hW:=fun η t=>cW_ren η b t
  have hM:=fun η t n=>cM_ren η b t n
  have hB:=fun η=>u8_ren η b
  have hz:=fun η=>z64_ren η
  have hlen:(b.map u8).length=64:=by simp [hb]
  refine den_inv (callX_ok tabQ9_ok) (σ:=Nat) (fun t=>[(4,.int .i64 (t:Int)),(3,.ptr 2 0),(2,.ptr 1 0),(0,.slc 0 0 1 64 cap)])
    (fun t=>[(2,⟨.own 154,cW b t⟩),(1,⟨.own 154,z64⟩),(0,⟨.view,b.map u8⟩)]) (fun _=>3) (fun t=>t≤16) (fun t=>16 - t) 0 ?_ (Nat.zero_le _) ?_
  · exact ⟨[(0,0),(1,0),(2,0)],by simp only [hW,hB,hz,Nat.reduceAdd,Nat.reduceSub,Nat.reduceLT,Nat.reduceLeDiff,↓reduceIte,reduceCtorEq,BC];trivial,by simp [Nat.reduceAdd,Nat.reduceEqDiff,Nat.reduceLT,Nat.reduceLeDiff,↓reduceIte,reduceCtorEq,BC]⟩
  · intro t ht
    by_cases h16:t < 16
    · have i1:(t:Int) < 16:=by omega
      have i0:(0:Int)≤(t:Int):=by omega
      have i3:(t:Int) < 64:=by omega
      have wt:IntKind.i64.wrap ((t:Int)+1)=((t+1:Nat):Int):=by rw [wrap64 (by omega) (by omega)];omega
      have w1:IntKind.i64.wrap (4 * (t:Int))=((4 * t:Nat):Int):=by rw [wrap64 (by omega) (by omega)];omega
      have w2:IntKind.i64.wrap (((4 * t:Nat):Int)+1)=((4 * t+1:Nat):Int):=by rw [wrap64 (by omega) (by omega)];omega
      have w3:IntKind.i64.wrap (((4 * t:Nat):Int)+2)=((4 * t+2:Nat):Int):=by rw [wrap64 (by omega) (by omega)];omega
      have w4:IntKind.i64.wrap (((4 * t:Nat):Int)+3)=((4 * t+3:Nat):Int):=by rw [wrap64 (by omega) (by omega)];omega
      have hj:∀ j,4 * t+j < 64→(b.map u8)[4 * t+j]?=some (u8 (b.getD (4 * t+j) 0)):=by
        intro j hj
        simp [List.getD_eq_getElem?_getD,show 4 * t+j < b.length by omega]
      have h0:=hj 0 (by omega)
      rw [Nat.add_zero] at h0
      have h1:=hj 1 (by omega)
      have h2:=hj 2 (by omega)
      have h3:=hj 3 (by omega)
      have v0:(0:Int)≤((4 * t:Nat):Int)∧((4 * t:Nat):Int) < 64:=by omega
      have v1:(0:Int)≤((4 * t+1:Nat):Int)∧((4 * t+1:Nat):Int) < 64:=by omega
      have v2:(0:Int)≤((4 * t+2:Nat):Int)∧((4 * t+2:Nat):Int) < 64:=by omega
      have v3:(0:Int)≤((4 * t+3:Nat):Int)∧((4 * t+3:Nat):Int) < 64:=by omega
      simp (config:={ maxSteps:=1000000 }) only [h0,h1,h2,h3,hlen,i1,i0,i3,w1,w2,w3,w4,v0.1,v0.2,v1.1,v1.2,v2.1,v2.2,v3.1,v3.2,cW_len (show t≤64 by omega),cW_put (show t < 64 by omega),wt,u8,or4,reduceCtorEq,Nat.reduceEqDiff,Nat.reduceLeDiff,Int.reduceToNat,Int.reduceLE,↓reduceIte,upd,BC,↓PC]
      refine ⟨by omega,by omega,by omega,by omega,by omega,t+1,⟨[(0,0),(1,0),(2,0)],?_,by simp [Nat.reduceAdd,Nat.reduceEqDiff,Nat.reduceLT,Nat.reduceLeDiff,↓reduceIte,reduceCtorEq,BC]⟩,by omega,by omega⟩
      rw [← cM_step (b:=b) (t:=t),show nxt b (schI b t) t=be4 b t from if_pos h16]
      unfold be4
      simp only [hM,hB,hz,Nat.reduceAdd,Nat.reduceSub,Nat.reduceLT,Nat.reduceLeDiff,↓reduceIte,reduceCtorEq,BC]
    · obtain rfl:t=16:=by omega
      simp (config:={ maxSteps:=1000000 }) only [reduceCtorEq,Nat.reduceEqDiff,Int.reduceLT,↓reduceIte,BC,↓PC]
      rw [den_loop]
      refine den_inv (callX_ok tabQ9_ok) (σ:=Nat) (fun t=>[(5,.int .i64 (t:Int)),(3,.ptr 2 0),(2,.ptr 1 0)])
        (fun t=>[(2,⟨.own 154,cW b t⟩),(1,⟨.own 154,z64⟩),(0,⟨.view,b.map u8⟩)]) (fun _=>3) (fun t=>16≤t∧t≤64) (fun t=>64 - t) 16 ?_ (by decide) ?_
      · exact ⟨[(0,0),(1,0),(2,0)],by simp only [hW,hB,hz,Nat.reduceAdd,Nat.reduceSub,Nat.reduceLT,Nat.reduceLeDiff,↓reduceIte,reduceCtorEq,BC],by simp [Nat.reduceAdd,Nat.reduceEqDiff,Nat.reduceLT,Nat.reduceLeDiff,↓reduceIte,BC]⟩
      · intro t ht
        by_cases h64:t < 64
        · have i1:(t:Int) < 64:=by omega
          have i0:(0:Int)≤(t:Int):=by omega
          have wt:IntKind.i64.wrap ((t:Int)+1)=((t+1:Nat):Int):=by rw [wrap64 (by omega) (by omega)];omega
          have a1:IntKind.i64.wrap ((t:Int) - 15)=((t - 15:Nat):Int):=by rw [wrap64 (by omega) (by omega)];omega
          have a2:IntKind.i64.wrap ((t:Int) - 2)=((t - 2:Nat):Int):=by rw [wrap64 (by omega) (by omega)];omega
          have a3:IntKind.i64.wrap ((t:Int) - 16)=((t - 16:Nat):Int):=by rw [wrap64 (by omega) (by omega)];omega
          have a4:IntKind.i64.wrap ((t:Int) - 7)=((t - 7:Nat):Int):=by rw [wrap64 (by omega) (by omega)];omega
          have b1:(0:Int)≤((t - 15:Nat):Int)∧((t - 15:Nat):Int) < 64:=by omega
          have b2:(0:Int)≤((t - 2:Nat):Int)∧((t - 2:Nat):Int) < 64:=by omega
          have b3:(0:Int)≤((t - 16:Nat):Int)∧((t - 16:Nat):Int) < 64:=by omega
          have b4:(0:Int)≤((t - 7:Nat):Int)∧((t - 7:Nat):Int) < 64:=by omega
          have c1:(cW b t)[t - 15]?=_:=cW_get (by omega)
          have c2:(cW b t)[t - 2]?=_:=cW_get (by omega)
          have c3:(cW b t)[t - 16]?=_:=cW_get (by omega)
          have c4:(cW b t)[t - 7]?=_:=cW_get (by omega)
          have g7:∀ n,gRotR [.int .u32 n,.int .i64 7]=some (.int .u32 (rotI n 7)):=fun n=>g90 (r:=7) (by decide) (by decide)
          have g18:∀ n,gRotR [.int .u32 n,.int .i64 18]=some (.int .u32 (rotI n 18)):=fun n=>g90 (r:=18) (by decide) (by decide)
          have g17:∀ n,gRotR [.int .u32 n,.int .i64 17]=some (.int .u32 (rotI n 17)):=fun n=>g90 (r:=17) (by decide) (by decide)
          have g19:∀ n,gRotR [.int .u32 n,.int .i64 19]=some (.int .u32 (rotI n 19)):=fun n=>g90 (r:=19) (by decide) (by decide)
          simp (config:={ maxSteps:=1000000 }) only [i1,i0,a1,a2,a3,a4,b1.1,b2.1,b3.1,b4.1,b1.2,b2.2,b3.2,b4.2,c1,c2,c3,c4,↓g7,↓g18,↓g17,↓g19,cW_len ht.2,cW_put h64,wt,u32,reduceCtorEq,Nat.reduceEqDiff,Nat.reduceLeDiff,Int.reduceToNat,Int.reduceLE,↓reduceIte,upd,BC,↓PC]
          refine ⟨by omega,t+1,⟨[(0,0),(1,0),(2,0)],?_,by simp [Nat.reduceAdd,Nat.reduceEqDiff,Nat.reduceLT,Nat.reduceLeDiff,↓reduceIte,BC]⟩,by omega,by omega⟩
          rw [← cM_step (b:=b) (t:=t),show nxt b (schI b t) t=_ from if_neg (by omega)]
          unfold addI sig0 sig1 shrI
          simp only [hM,hB,hz,Nat.reduceAdd,Nat.reduceSub,Nat.reduceLT,Nat.reduceLeDiff,↓reduceIte,reduceCtorEq,BC]
        · obtain rfl:t=64:=by omega
          simp (config:={ maxSteps:=1000000 }) only [reduceCtorEq,Nat.reduceEqDiff,Int.reduceLT,↓reduceIte,upd,splice,BC,↓PC]
          have hl:=cW_len (b:=b) (Nat.le_refl 64)
          have hz:z64.length=64:=by simp [z64]
          have hd:List.drop 64 z64=[]:=List.drop_of_length_le (by omega)
          rw [List.take_of_length_le (by omega:(cW b 64).length≤64),hl,hd,List.append_nil,hl,hz,List.take_of_length_le (by omega:(cW b 64).length≤64),cW_all]
          exact ⟨Nat.le_refl _,rfl,Nat.le_refl _,Nat.le_refl _,rfl⟩
theorem gSchR_ok:FunS Tryz.prog tS 103 gSch:=by
  intro a0 m0 r m1 n1 h
  unfold gSch at h
  split at h
  · rename_i cap cells
    split at h
    · rename_i b hb
      split at h
      · rename_i h1 h2
        cases h
        rw [unI8_some hb]
        exact ⟨f89 b (Nat.eq_of_beq_eq_true h1) cap (capB_ok h2),by simp [freshB]⟩
      · cases h
    · cases h
  · cases h
end Go.Proofs.YtkfbkooobfepeaaGreatDoor

/- The reference's hash of a message. -/
namespace Go.Proofs.YtkfbkooobfepeaaGreatDoor
open Go Go.Sx Sf
set_option maxRecDepth 100000
set_option linter.unusedVariables false
def tH2:List (Nat × List SV):=[(0,kc.map u32),(1,kc.map u32)]
def tabRef:List (FuncId × GS):=[(102,gPad),(103,gSch)]
theorem tabRef_ok {tS:List (Nat × List SV)}:∀ x ∈ tabRef,FunS Tryz.prog tS x.1 x.2:=by
  intro x hx
  simp only [tabRef,List.mem_cons,List.not_mem_nil,or_false] at hx
  rcases hx with rfl | rfl
  · exact gPad_ok
  · exact gSchR_ok
def cRef:CallT:=callS tabRef (callX tabQ9)
theorem cRef_ok {tS:List (Nat × List SV)}:∀ f a m n K,cRef f a m n K→callT Tryz.prog tS f a m n K:=callS_ok tabRef_ok (callX_ok tabQ9_ok)
theorem gPad_eq {m:List UInt8} {cap:Option Nat} (hm:m.length≤2 ^ 38) (hcap:CapOk cap m.length) :
    gPad [.slc 0 0 1 m.length cap] [(0,⟨.view,bys m⟩)]=some (.slc 1 0 1 (m++padS m.length).length none,[(1,⟨.own 5,bys (m++padS m.length)⟩)],2):=by
  have hcb:capB cap m.length=true:=by
    cases cap with
    | none=>rfl
    | some c=>exact Nat.ble_eq_true_of_le (hcap c rfl)
  unfold gPad
  simp only [unB_bytes,hcb,hm,and_self,if_true]
theorem gSch_eq {b:List UInt8} (hb:b.length=64):gSch [.slc 0 0 1 64 none] [(0,⟨.view,bys b⟩)]=some (.agg ((schI (byI b) 64).map u32),[],1):=by
  unfold gSch
  simp only
  rw [← bys_u8,unI8_map]
  simp only [byI_len,hb]
  rfl
theorem not_eq32 (e:Int):bitop .xor .u32 e 4294967295=notI e:=by
  have h:(if IntKind.u32.signed then (-1:Int) else IntKind.u32.max)=4294967295:=by decide
  unfold notI
  rw [h]
  unfold bitop
  simp only
  rw [BitVec.xor_comm]
theorem lookR:lookT tH2 0=some (kc.map u32):=(rfl)
set_option maxHeartbeats 8000000 in
theorem f74 (m:List UInt8) (hm:m.length≤2 ^ 37) (cap:Option Nat) (hcap:CapOk cap m.length) :
    Fun Tryz.prog tH2 88 [.slc 0 0 1 m.length cap] [(0,⟨.view,bys m⟩)] 1 (.agg (bys (sumS m))) [] 1:=by
  refine fun_val none cRef cRef_ok chk74 (show 1≤148 by decide) (fun η=>by simp only [SV.ren,ren_bytes]) ?_
  unfold sf74 oh om oq ov
  have gp:=gPad_eq (m:=m) (cap:=cap) (by omega) hcap
  have tm:=take_bytes m
  simp (config:={ maxSteps:=1000000 }) only [cRef,tabRef,tabQ9,↓gp,tm,lookF,reduceCtorEq,Nat.reduceEqDiff,Nat.reduceAdd,Nat.reduceSub,Nat.reduceLeDiff,Nat.reduceLT,eq_self,frOf,↓reduceIte,↓fillE,Opd.ev,Sx.get,put,putO,del,dels,rd,upd,splice,SV.cells?,SV.one,canLW,canV,canC,belowL,apH,apH1,eta,SV.ren,newOwn,targets,rms,Kind.isOwn,BB,↓PB]
  rw [den_loop]
  have hML:∃ T,(m++padS m.length).length=64 * T:=⟨(m++padS m.length).length / 64,by have:=padS_mod m.length;simp only [List.length_append] at this ⊢;omega⟩
  have hMu:(m++padS m.length).length≤2 ^ 38:=by have:=padS_len m.length;have:=padZ_le m.length;simp only [List.length_append];omega
  have hfin:sumS m=outS (valS (m++padS m.length)):=rfl
  generalize hM:m++padS m.length=M at *
  obtain ⟨T,hT⟩:=hML
  rw [hT,hfin]
  have rB:∀ η (b:List UInt8),SV.renL η (bys b)=bys b:=fun η b=>ren_bytes η b
  have rV:∀ η (s:V8),SV.renL η (s.l.map u32)=s.l.map u32:=fun η s=>ren_w η _
  have rW:∀ η l,SV.renL η (List.map u32 l)=List.map u32 l:=fun η l=>ren_w η l
  have hz:∀ η,SV.renL η z32=z32:=fun η=>outC_ren η iv 0
  have v0:valS (M.take (64 * 0))=iv:=rfl
  have hMl:(bys M).length=64 * T:=by rw [len_bytes,hT]
  refine den_inv cRef_ok (σ:=Nat) (fun t=>[(5,.int .i64 ((64 * t:Nat):Int)),(4,.slc 3 0 1 (64 * T) none),(3,.ptr 2 0),(2,.ptr 1 0)])
    (fun t=>[(3,⟨.own 5,bys M⟩),(2,⟨.own 115,(valS (M.take (64 * t))).l.map u32⟩),(1,⟨.own 121,z32⟩)]) (fun _=>4) (fun t=>t≤T) (fun t=>T - t) 0 ?_ (Nat.zero_le _) ?_
  · exact ⟨[(0,0),(1,0),(2,0),(3,0)],by simp only [v0,rB,rV,hz,EntM,compat,apartM,keysBelow,eta,idHs,rd,Nat.reduceAdd,Nat.reduceSub,Nat.reduceEqDiff,Nat.reduceLT,Nat.reduceLeDiff,↓reduceIte,Kind.isOwn,exists_eq_left',ne_eq,implies_true,false_imp_iff,forall_const,forall_eq_or_imp,forall_eq,BB];exact ⟨rfl,rfl⟩,by simp [frEnt,geto,eta,SV.ren,Nat.reduceAdd,Nat.reduceEqDiff,Nat.reduceLT,Nat.reduceLeDiff,↓reduceIte,BB]⟩
  · intro t ht
    by_cases htT:t < T
    · have c1:((64 * t:Nat):Int) < ((64 * T:Nat):Int):=by omega
      have w1:IntKind.i64.wrap (((64 * t:Nat):Int)+64)=((64 * (t+1):Nat):Int):=by rw [wrap64_eq (by omega) (by omega)];omega
      have k1:(0:Int)≤((64 * t:Nat):Int):=by omega
      have k2:((64 * t:Nat):Int)≤((64 * (t+1):Nat):Int):=by omega
      have kle:64 * t+64≤64 * T:=by omega
      have k3:64 * (t+1) - 64 * t=64:=by omega
      have tk:List.take 64 (List.drop (64 * t) (bys M))=bys ((M.drop (64 * t)).take 64):=by simp [bys,List.map_take,List.map_drop]
      have hbl:((M.drop (64 * t)).take 64).length=64:=by simp;omega
      have gs:=gSch_eq hbl
      have hst:=valS_step (m:=M) (t:=t) (by omega)
      generalize hb:(M.drop (64 * t)).take 64=b at *
      have hsl:(List.map u32 (schI (byI b) 64)).length=64:=by simp [schI_len]
      have hl8:(List.map u32 (valS (M.take (64 * t))).l).length=8:=rfl
      have tk8:List.take 8 (List.map u32 (valS (M.take (64 * t))).l)=List.map u32 (valS (M.take (64 * t))).l:=rfl
      simp (config:={ maxSteps:=1000000 }) only [c1,w1,k1,k2,k3,kle,Option.map_none,tk,↓gs,hsl,hl8,tk8,rW,hMl,lookF,Nat.reduceEqDiff,Nat.reduceAdd,Nat.reduceSub,Nat.reduceLT,eq_self,↓reduceIte,↓binI,Opd.ev,Sx.get,put,putO,del,dels,rd,upd,SV.cells?,canLW,canV,canC,belowL,apH,apH1,SV.ren,newOwn,targets,rms,Kind.isOwn,BB,↓PB]
      have sW:∀ z:List SV,z.length=64→splice z 0 (List.map u32 (schI (byI b) 64))=List.map u32 (schI (byI b) 64):=fun z hz=>splice_all (hsl.trans hz.symm)
      have sV:∀ z:List SV,z.length=8→splice z 0 (List.map u32 (valS (M.take (64 * t))).l)=List.map u32 (valS (M.take (64 * t))).l:=fun z hz=>splice_all (hl8.trans hz.symm)
      rw [sW,sV]
      rotate_left
      · rfl
      · rfl
      refine ⟨by omega,?_⟩
      rw [den_loop]
      generalize hs0:valS (M.take (64 * t))=s0 at *
      obtain ⟨a0,a1,a2,a3,a4,a5,a6,a7⟩:=s0
      generalize hRe:(fun r=>V8.rounds (schI (byI b) 64) ⟨a0,a1,a2,a3,a4,a5,a6,a7⟩ r)=R
      have hR0:R 0=⟨a0,a1,a2,a3,a4,a5,a6,a7⟩:=by rw [← hRe];rfl
      have rWW:∀ η,SV.renL η (List.map u32 (schI (byI b) 64))=List.map u32 (schI (byI b) 64):=fun η=>ren_w η _
      have ru:∀ η n,(u32 n).ren η=u32 n:=fun _ _=>rfl
      generalize hW:List.map u32 (schI (byI b) 64)=W at *
      refine den_inv cRef_ok (σ:=Nat) (fun r=>[(8,.int .i64 (r:Int)),(7,.ptr 5 0),(6,.ptr 4 0),(5,.int .i64 ((64 * t:Nat):Int)),(4,.slc 3 0 1 (64 * T) none),(3,.ptr 2 0),(2,.ptr 1 0)])
        (fun r=>[(5,⟨.own 115,[u32 (R r).a,u32 (R r).b,u32 (R r).c,u32 (R r).d,u32 (R r).e,u32 (R r).f,u32 (R r).g,u32 (R r).h]⟩),(4,⟨.own 154,W⟩),(3,⟨.own 5,bys M⟩),(2,⟨.own 115,[u32 a0,u32 a1,u32 a2,u32 a3,u32 a4,u32 a5,u32 a6,u32 a7]⟩),(1,⟨.own 121,z32⟩)]) (fun _=>6)
        (fun r=>r≤64) (fun r=>64 - r) 0 ?_ (Nat.zero_le _) ?_
      · exact ⟨[(0,0),(1,0),(2,0),(3,0),(4,0),(5,0)],by simp only [V8.l,rB,rWW,ru,hz,hR0,EntM,compat,apartM,keysBelow,eta,idHs,rd,SV.renL,Nat.reduceAdd,Nat.reduceSub,Nat.reduceEqDiff,Nat.reduceLT,Nat.reduceLeDiff,↓reduceIte,Kind.isOwn,exists_eq_left',ne_eq,implies_true,false_imp_iff,forall_const,forall_eq_or_imp,forall_eq,BB] <;> exact ⟨rfl,rfl⟩,by simp [frEnt,geto,eta,SV.ren,Nat.reduceAdd,Nat.reduceEqDiff,Nat.reduceLT,Nat.reduceLeDiff,↓reduceIte,BB]⟩
      · intro r hr
        by_cases h64:r < 64
        · have d1:(r:Int) < 64:=by omega
          have d2:(0:Int)≤(r:Int):=by omega
          have wt:IntKind.i64.wrap ((r:Int)+1)=((r+1:Nat):Int):=by rw [wrap64_eq (by omega) (by omega)];omega
          have gk:(List.map u32 kc)[r]?=some (u32 (kc.getD r 0)):=by
            have:kc.length=64:=rfl
            simp [List.getD_eq_getElem?_getD,show r < kc.length by omega]
          have gw:W[r]?=some (u32 ((schI (byI b) 64).getD r 0)):=by
            rw [← hW]
            simp [List.getD_eq_getElem?_getD,schI_len,h64]
          have hR1:R (r+1)=(R r).round ((schI (byI b) 64).getD r 0) (kc.getD r 0):=by rw [← hRe];rfl
          generalize hk:kc.getD r 0=k at *
          generalize hwt:(schI (byI b) 64).getD r 0=w at *
          rcases hRt:R r with ⟨a,bb,c,d,e,f,g,h⟩
          simp only
          have g6:∀ n,gRotR [.int .u32 n,.int .i64 6]=some (.int .u32 (rotI n 6)):=fun n=>g90 (r:=6) (by decide) (by decide)
          have g11:∀ n,gRotR [.int .u32 n,.int .i64 11]=some (.int .u32 (rotI n 11)):=fun n=>g90 (r:=11) (by decide) (by decide)
          have g25:∀ n,gRotR [.int .u32 n,.int .i64 25]=some (.int .u32 (rotI n 25)):=fun n=>g90 (r:=25) (by decide) (by decide)
          have g2:∀ n,gRotR [.int .u32 n,.int .i64 2]=some (.int .u32 (rotI n 2)):=fun n=>g90 (r:=2) (by decide) (by decide)
          have g13:∀ n,gRotR [.int .u32 n,.int .i64 13]=some (.int .u32 (rotI n 13)):=fun n=>g90 (r:=13) (by decide) (by decide)
          have g22:∀ n,gRotR [.int .u32 n,.int .i64 22]=some (.int .u32 (rotI n 22)):=fun n=>g90 (r:=22) (by decide) (by decide)
          simp (config:={ maxSteps:=1000000 }) only [↓g6,↓g11,↓g25,↓g2,↓g13,↓g22,d1,d2,gk,gw,wt,u32,lookR,not_eq32,SV.flatL,SV.flat,lookF,Nat.reduceEqDiff,Nat.reduceAdd,Nat.reduceLeDiff,Int.reduceToNat,Int.reduceLT,Int.reduceLE,eq_self,↓reduceIte,↓binI,↓fillE,Opd.ev,Sx.get,put,putO,del,dels,rd,upd,splice,SV.cells?,SV.one,BB,↓PB]
          rw [hRt] at hR1
          refine ⟨r+1,⟨[(0,0),(1,0),(2,0),(3,0),(4,0),(5,0)],?_,?_⟩,by omega,by omega⟩
          · simp only [hR1,V8.round,addI,xorI,andI,mixI,rB,rWW,hz,EntM,compat,apartM,keysBelow,eta,idHs,rd,SV.ren,SV.renL,Nat.reduceAdd,Nat.reduceSub,Nat.reduceEqDiff,Nat.reduceLT,Nat.reduceLeDiff,↓reduceIte,Kind.isOwn,exists_eq_left',ne_eq,implies_true,false_imp_iff,forall_const,forall_eq_or_imp,forall_eq,BB]
          · simp only [frEnt,geto,eta,SV.ren,Nat.reduceAdd,Nat.reduceSub,Nat.reduceEqDiff,↓reduceIte,BB]
        · obtain rfl:r=64:=by omega
          rcases hRt:R 64 with ⟨a,bb,c,d,e,f,g,h⟩
          have hcomp:comp ⟨a0,a1,a2,a3,a4,a5,a6,a7⟩ (byI b)=V8.add ⟨a0,a1,a2,a3,a4,a5,a6,a7⟩ ⟨a,bb,c,d,e,f,g,h⟩:=by
            unfold comp;rw [← hRt,← hRe]
          simp only
          simp (config:={ maxSteps:=1000000 }) only [u32,Nat.reduceEqDiff,Int.reduceLT,eq_self,↓reduceIte,↓binI,Opd.ev,Sx.get,put,putO,del,dels,BB,↓PB]
          rw [den_loop]
          refine den_unroll cRef_ok (callT_point _ _) 9 ?_
          simp (config:={ maxSteps:=1000000 }) only [w1,Nat.reduceEqDiff,Nat.reduceAdd,Nat.reduceLeDiff,Int.reduceToNat,Int.reduceLT,Int.reduceLE,Int.reduceAdd,Int.reduceNeg,eq_self,↓reduceIte,↓binI,Opd.ev,Sx.get,put,putO,del,dels,rd,upd,splice,SV.cells?,SV.one,BB,↓PB]
          refine ⟨t+1,⟨[(0,0),(1,0),(2,0),(3,0)],?_,?_⟩,by omega,by omega⟩
          · simp only [hst,hcomp,V8.add,addI,V8.l,u32,rB,hz,EntM,compat,apartM,keysBelow,eta,idHs,rd,SV.ren,SV.renL,Nat.reduceAdd,Nat.reduceSub,Nat.reduceEqDiff,Nat.reduceLT,Nat.reduceLeDiff,↓reduceIte,Kind.isOwn,exists_eq_left',ne_eq,implies_true,false_imp_iff,forall_const,forall_eq_or_imp,forall_eq,BB]
          · simp only [frEnt,geto,eta,SV.ren,Nat.reduceAdd,Nat.reduceSub,Nat.reduceEqDiff,↓reduceIte,BB]
    · obtain rfl:t=T:=by omega
      have eM:M.take (64 * t)=M:=List.take_of_length_le (by omega)
      have c3:decide (((64 * t:Nat):Int) < ((64 * t:Nat):Int))=false:=by simp
      have hl8:(List.map u32 (valS M).l).length=8:=rfl
      rw [eM]
      generalize hS:valS M=S at *
      simp (config:={ maxSteps:=1000000 }) only [c3,Nat.reduceEqDiff,Nat.reduceAdd,eq_self,↓reduceIte,↓binI,Opd.ev,Sx.get,put,putO,del,dels,BB,↓PB]
      rw [den_loop]
      have rC:∀ η i,SV.renL η (outC S i)=outC S i:=fun η i=>outC_ren η S i
      have hzl:z32.length=32:=rfl
      refine den_inv cRef_ok (σ:=Nat) (fun i=>[(13,.int .i64 (i:Int)),(12,.ptr 4 0),(3,.ptr 2 0),(2,.ptr 1 0)]) (fun i=>[(4,⟨.own 121,outC S i⟩),(2,⟨.own 115,List.map u32 S.l⟩),(1,⟨.own 121,z32⟩)]) (fun _=>5)
        (fun i=>i≤32) (fun i=>32 - i) 0 ?_ (Nat.zero_le _) ?_
      · exact ⟨[(0,0),(1,0),(2,0),(3,0),(4,0)],by simp only [rV,hz,outC_z,EntM,compat,apartM,keysBelow,eta,idHs,rd,Nat.reduceAdd,Nat.reduceSub,Nat.reduceEqDiff,Nat.reduceLT,Nat.reduceLeDiff,↓reduceIte,Kind.isOwn,exists_eq_left',ne_eq,implies_true,false_imp_iff,forall_const,forall_eq_or_imp,forall_eq,BB] <;> rfl,by simp [frEnt,geto,eta,SV.ren,Nat.reduceAdd,Nat.reduceEqDiff,Nat.reduceLT,Nat.reduceLeDiff,↓reduceIte,BB]⟩
      · intro i hi
        have lC:=outC_len (s:=S) hi
        by_cases h32:i < 32
        · have c1:(i:Int) < 32:=by omega
          have c2:(0:Int)≤(i:Int):=by omega
          have q1:Int.tdiv (i:Int) 4=((i / 4:Nat):Int):=(Int.ofNat_tdiv i 4).symm
          have q2:Int.tmod (i:Int) 4=((i % 4:Nat):Int):=(Int.ofNat_tmod i 4).symm
          have q3:IntKind.i64.wrap ((i / 4:Nat):Int)=((i / 4:Nat):Int):=wrap64_eq (by omega) (by omega)
          have q4:(0:Int)≤((i / 4:Nat):Int)∧((i / 4:Nat):Int) < 8:=by omega
          have hs:(List.map u32 S.l)[i / 4]?=some (.int .u32 (S.l.getD (i / 4) 0)):=by
            have hl:S.l.length=8:=rfl
            simp [List.getD_eq_getElem?_getD,hl,show i / 4 < 8 by omega,u32]
          have v1:IntKind.i64.wrap (8 * ((i % 4:Nat):Int))=((8 * (i % 4):Nat):Int):=by rw [wrap64_eq (by omega) (by omega)];omega
          have v2:IntKind.i64.wrap (24 - ((8 * (i % 4):Nat):Int))=((24 - 8 * (i % 4):Nat):Int):=by rw [wrap64_eq (by omega) (by omega)];omega
          have v3:(0:Int)≤((24 - 8 * (i % 4):Nat):Int):=by omega
          have v4:IntKind.i64.wrap ((i:Int)+1)=((i+1:Nat):Int):=by rw [wrap64_eq (by omega) (by omega)];omega
          have op:=outC_put (s:=S) h32
          simp (config:={ maxSteps:=1000000 }) only [c1,c2,q1,q2,q3,q4.1,q4.2,hs,v1,v2,v3,v4,lC,op,Nat.reduceEqDiff,Nat.reduceLeDiff,Int.reduceNe,eq_self,↓reduceIte,↓binI,Opd.ev,Sx.get,put,putO,del,dels,rd,upd,SV.cells?,SV.one,BB,↓PB]
          exact ⟨by omega,i+1,⟨[(0,0),(1,0),(2,0),(3,0),(4,0)],by simp only [rV,hz,rC,EntM,compat,apartM,keysBelow,eta,idHs,rd,Nat.reduceAdd,Nat.reduceSub,Nat.reduceEqDiff,Nat.reduceLT,Nat.reduceLeDiff,↓reduceIte,Kind.isOwn,exists_eq_left',ne_eq,implies_true,false_imp_iff,forall_const,forall_eq_or_imp,forall_eq,BB],by simp [frEnt,geto,eta,SV.ren,Nat.reduceAdd,Nat.reduceEqDiff,Nat.reduceLT,Nat.reduceLeDiff,↓reduceIte,BB]⟩,by omega,by omega⟩
        · obtain rfl:i=32:=by omega
          simp (config:={ maxSteps:=1000000 }) only [lC,Nat.reduceEqDiff,Int.reduceLT,eq_self,↓reduceIte,↓binI,↓evRes,Opd.ev,Sx.get,put,putO,del,dels,rd,upd,SV.cells?,retOf,BB,↓PB]
          have tC:List.take 32 (outC S 32)=outC S 32:=List.take_of_length_le (by omega)
          have sC:splice z32 0 (outC S 32)=outC S 32:=splice_all (by rw [lC,hzl])
          rw [tC,sC,tC]
          exact ⟨lC,by omega,by omega,outC_all S⟩
def gSumR:GS
  | [.slc 0 0 1 len cap],[(0,⟨.view,cells⟩)]=>match unB cells with
    | some m=>match capB cap m.length with
      | true=>if len=m.length∧m.length≤2 ^ 37 then some (.agg (bys (sumS m)),[],1) else none
      | _=>none
    | none=>none
  | _,_=>none
theorem gSumR_ok:FunS Tryz.prog tH2 88 gSumR:=by
  intro a0 m0 r m1 n1 h
  unfold gSumR at h
  split at h
  · split at h
    · rename_i m hm
      split at h
      · rename_i hcap
        split at h
        · rename_i hc
          cases h
          obtain ⟨rfl,h2⟩:=hc
          rw [unB_some hm]
          exact ⟨f74 m h2 _ (capB_ok hcap),by simp [freshB]⟩
        · cases h
      · cases h
    · cases h
  · cases h
end Go.Proofs.YtkfbkooobfepeaaGreatDoor

/- The functions of the program that are walked through, written out for the engine (printed by wip/tools/Print.lean from the dump), and the kernel's check of each against the program. -/
namespace Go.Proofs.YtkfbkooobfepeaaGreatDoor.Sf
open Go Go.Sx
set_option maxRecDepth 100000
set_option linter.unusedSimpArgs false
set_option linter.unusedVariables false
def sf203:SF:=⟨137,[.t 10],.seq (.reg [oq 8 (.box 25 (.t 3)) [3],oq 9 (.box 25 (.t 4)) [4],om 10 (.c (.bool false)) [10]]) (.seq (.reg [om 29 (.t 0) [],om 30 (.t 1) [],oq 31 (.callp 4 [.t 29,
 .t 30]) [29,30],om 28 (.t 31) [31],oq 32 (.ext (.t 28) 0) [],oq 33 (.ext (.t 28) 1) [28],oq 11 (.new 23 [.int .u8 0,.int .u8 0,.int .u8 0,.int .u8 0,.int .u8 0,.int .u8 0,.int .u8 0,
 .int .u8 0,.int .u8 0,.int .u8 0,.int .u8 0,.int .u8 0,.int .u8 0,.int .u8 0,.int .u8 0,.int .u8 0]) [],ov (.store 16 (.t 11) (.t 32)) [32],om 12 (.t 33) [33]]) (.seq (.seq (.reg [om 34 (.t 12)
  [12],oq 35 (.bin .neq (.t 34) (.c (.int .i64 0))) [34],om 36 (.t 35) [35],og 37 (.mv (.t 1)) 36 false [],og 38 (.bin .gtr (.t 37) (.c (.int .i64 2))) 36 false [37],oq 39 (.pick (.t 36)
  (.c (.bool true)) (.t 38)) [36,38]]) (.cond (.t 39) (.seq (.reg [oq 40 (.callp 5 []) [],om 10 (.t 40) [40]]) (.ret)) (.skip))) (.seq (.reg [oq 41 (.load (some 16) (.t 11)) [11],om 42 (.t 1)
  [],oq 43 (.build [.str [],.int .u8 0,.int .u8 0,.int .u8 0,.int .u8 0,.int .u8 0,.int .u8 0,.int .u8 0,.int .u8 0,.int .u8 0,.int .u8 0,.int .u8 0,.int .u8 0,.int .u8 0,.int .u8 0,
 .int .u8 0,.int .u8 0,.int .i64 0] [(0,1,.c (.str [97])),(1,16,.t 41),(17,1,.t 42)]) [41,42],oq 44 (.build [.int .u8 0,.int .u8 0,.int .u8 0,.int .u8 0,.int .u8 0,.int .u8 0,.int .u8 0,
 .int .u8 0,.int .u8 0,.int .u8 0,.int .u8 0,.int .u8 0,.int .u8 0,.int .u8 0,.int .u8 0,.int .u8 0] [(0,1,.c (.int .u8 2))]) [],om 45 (.t 1) [],oq 46 (.build [.str [],.int .u8 0,.int .u8 0,
 .int .u8 0,.int .u8 0,.int .u8 0,.int .u8 0,.int .u8 0,.int .u8 0,.int .u8 0,.int .u8 0,.int .u8 0,.int .u8 0,.int .u8 0,.int .u8 0,.int .u8 0,.int .u8 0,.int .i64 0] [(0,1,.c (.str [98])
 ),(1,16,.t 44),(17,1,.t 45)]) [44,45],oq 47 (.bslice 31 18 2 [.str [],.int .u8 0,.int .u8 0,.int .u8 0,.int .u8 0,.int .u8 0,.int .u8 0,.int .u8 0,.int .u8 0,.int .u8 0,.int .u8 0,.int .u8 0,
 .int .u8 0,.int .u8 0,.int .u8 0,.int .u8 0,.int .u8 0,.int .i64 0,.str [],.int .u8 0,.int .u8 0,.int .u8 0,.int .u8 0,.int .u8 0,.int .u8 0,.int .u8 0,.int .u8 0,.int .u8 0,.int .u8 0,
 .int .u8 0,.int .u8 0,.int .u8 0,.int .u8 0,.int .u8 0,.int .u8 0,.int .i64 0] [(0,18,.t 43),(18,18,.t 46)]) [43,46],oq 48 (.build [.int .i64 0,.int .i64 0,.val (.slice none 0 0)] [(1,
 1,.c (.int .i64 1)),(2,1,.t 47)]) [47],oq 13 (.new 34 [.int .i64 0,.int .i64 0,.val (.slice none 0 0)]) [],ov (.store 3 (.t 13) (.t 48)) [48]]) (.seq (.reg [oq 49 (.fld (.t 8) 0) [],
 oq 50 (.load (some 16) (.t 49)) [49],oq 51 (.fld (.t 8) 32) [],oq 52 (.load none (.t 51)) [51],oq 53 (.fld (.t 8) 33) [],oq 54 (.load none (.t 53)) [53],oq 55 (.fld (.t 8) 34) [],oq 56 (.load none (.t 55)
 ) [55],oq 57 (.fld (.t 8) 16) [8],oq 58 (.load (some 16) (.t 57)) [57],oq 59 (.callp 6 [.t 50,.t 52,.t 54,.t 56,.t 58]) [50,52,54,56,58],om 14 (.t 59) [59]]) (.seq (.reg [oq 60 (.fld (.t 9)
  0) [],oq 61 (.load (some 16) (.t 60)) [60],oq 62 (.fld (.t 9) 32) [],oq 63 (.load none (.t 62)) [62],oq 64 (.fld (.t 9) 33) [],oq 65 (.load none (.t 64)) [64],oq 66 (.fld (.t 9) 34)
  [],oq 67 (.load none (.t 66)) [66],oq 68 (.fld (.t 9) 16) [9],oq 69 (.load (some 16) (.t 68)) [68],oq 70 (.callp 6 [.t 61,.t 63,.t 65,.t 67,.t 69]) [61,63,65,67,69],om 15 (.t 70) [70]])
  (.seq (.reg [om 72 (.t 0) [0],om 73 (.t 1) [1],om 74 (.t 2) [],om 75 (.t 14) [],oq 76 (.callp 7 [.t 72,.t 73,.t 74,.t 75]) [72,73,74,75],om 71 (.t 76) [76],oq 77 (.ext (.t 71) 0) [],
 oq 78 (.ext (.t 71) 1) [71],om 16 (.t 77) [77],om 17 (.t 78) [78]]) (.seq (.seq (.reg [om 79 (.t 17) [17],oq 80 (.bin .neq (.t 79) (.c (.int .i64 0))) [79]]) (.cond (.t 80) (.seq (.reg [oq 81 (.callp 5 [])
  [],om 10 (.t 81) [81]]) (.ret)) (.skip))) (.seq (.reg [oq 83 (.load (some 3) (.t 13)) [],om 84 (.t 14) [],om 85 (.t 16) [],oq 86 (.call 8 [.t 83,.c (.int .i64 0),.t 84,.t 85]) [83,
 84,85],om 82 (.t 86) [86],oq 87 (.ext (.t 82) 0) [],oq 88 (.ext (.t 82) 1) [82],om 18 (.t 87) [87],om 19 (.t 88) [88]]) (.seq (.reg [oq 90 (.load (some 3) (.t 13)) [],om 91 (.t 15) [],
 om 92 (.t 16) [],oq 93 (.call 8 [.t 90,.c (.int .i64 0),.t 91,.t 92]) [90,91,92],om 89 (.t 93) [93],oq 94 (.ext (.t 89) 0) [],oq 95 (.ext (.t 89) 1) [89],om 20 (.t 94) [20,94],om 21 (.t 95)
  [95]]) (.seq (.reg [oq 97 (.load (some 3) (.t 13)) [],om 98 (.t 14) [],om 99 (.t 16) [],oq 100 (.call 8 [.t 97,.c (.int .i64 1),.t 98,.t 99]) [97,98,99],om 96 (.t 100) [100],oq 101 (.ext (.t 96)
  0) [],oq 102 (.ext (.t 96) 1) [96],om 22 (.t 101) [22,101],om 23 (.t 102) [102]]) (.seq (.reg [oq 104 (.load (some 3) (.t 13)) [],om 105 (.t 15) [15],om 106 (.t 16) [],oq 107 (.call 9 [.t 104,
 .c (.int .i64 0),.t 105,.t 106]) [104,105,106],om 103 (.t 107) [107],oq 108 (.ext (.t 103) 0) [],oq 109 (.ext (.t 103) 1) [103],om 24 (.t 108) [24,108],om 25 (.t 109) [109]]) (.seq (.reg [oq 111 (.load (some 3)
  (.t 13)) [13],om 112 (.t 14) [14],om 113 (.t 16) [16],oq 114 (.call 9 [.t 111,.c (.int .i64 1),.t 112,.t 113]) [111,112,113],om 110 (.t 114) [114],oq 115 (.ext (.t 110) 0) [],oq 116 (.ext (.t 110)
  1) [110],om 26 (.t 115) [26,115],om 27 (.t 116) [116]]) (.seq (.reg [oq 117 (.callp 5 []) [],om 118 (.t 117) [117],og 119 (.mv (.t 19)) 118 true [19],og 120 (.bin .eql (.t 119) (.c (.int .i64 0)
 )) 118 true [119],oq 121 (.pick (.t 118) (.t 120) (.c (.bool false))) [118,120],om 122 (.t 121) [121],og 123 (.mv (.t 18)) 122 true [18],og 124 (.mv (.t 2)) 122 true [2],og 125 (.bin .eql (.t 123)
  (.t 124)) 122 true [123,124],oq 126 (.pick (.t 122) (.t 125) (.c (.bool false))) [122,125],om 127 (.t 126) [126],og 128 (.mv (.t 21)) 127 true [21],og 129 (.mv (.t 25)) 127 true [25],
 og 130 (.bin .eql (.t 128) (.t 129)) 127 true [128,129],oq 131 (.pick (.t 127) (.t 130) (.c (.bool false))) [127,130],om 132 (.t 131) [131],og 133 (.mv (.t 23)) 132 true [23],og 134 (.mv (.t 27)
 ) 132 true [27],og 135 (.bin .eql (.t 133) (.t 134)) 132 true [133,134],oq 136 (.pick (.t 132) (.t 135) (.c (.bool false))) [132,135],om 10 (.t 136) [136]]) (.ret))))))))))))))⟩
theorem chk203:chkF Tryz.prog 3 sf203=true:=by kernel_rfl

def sf204:SF:=⟨22,[.c 4 (some 16),.t 5],.seq (.reg [oq 4 (.new 23 [.int .u8 0,.int .u8 0,.int .u8 0,.int .u8 0,.int .u8 0,.int .u8 0,.int .u8 0,.int .u8 0,.int .u8 0,.int .u8 0,
 .int .u8 0,.int .u8 0,.int .u8 0,.int .u8 0,.int .u8 0,.int .u8 0]) [],om 5 (.c (.int .i64 0)) [5]]) (.seq (.seq (.reg [om 6 (.t 0) [],oq 7 (.len true (.t 6)) [6],oq 8 (.bin .neq (.t 7)
  (.c (.int .i64 32))) [7],om 9 (.t 8) [8],og 10 (.mv (.t 1)) 9 false [],og 11 (.bin .lss (.t 10) (.c (.int .i64 0))) 9 false [10],oq 12 (.pick (.t 9) (.c (.bool true)) (.t 11)) [9,11],
 om 13 (.t 12) [12],og 14 (.mv (.t 1)) 13 false [],og 15 (.bin .gtr (.t 14) (.c (.int .i64 6))) 13 false [14],oq 16 (.pick (.t 13) (.c (.bool true)) (.t 15)) [13,15]]) (.cond (.t 16)
  (.seq (.reg [oq 17 (.build [.int .u8 0,.int .u8 0,.int .u8 0,.int .u8 0,.int .u8 0,.int .u8 0,.int .u8 0,.int .u8 0,.int .u8 0,.int .u8 0,.int .u8 0,.int .u8 0,.int .u8 0,.int .u8 0,
 .int .u8 0,.int .u8 0] []) [],ov (.store 16 (.t 4) (.t 17)) [17],om 5 (.c (.int .i64 1)) []]) (.ret)) (.skip))) (.seq (.reg [om 18 (.t 0) [0],om 19 (.t 1) [1],oq 20 (.call 11 [.t 18,
 .t 19]) [18,19],oq 21 (.call 10 [.t 20]) [20],ov (.store 16 (.t 4) (.t 21)) [21],om 5 (.c (.int .i64 0)) []]) (.ret)))⟩
theorem chk204:chkF Tryz.prog 4 sf204=true:=by kernel_rfl

def sf207:SF:=⟨62,[.t 8,.t 9],.seq (.reg [om 8 (.c (.str [])) [8],om 9 (.c (.int .i64 0)) [9]]) (.seq (.reg [om 16 (.t 0) [],om 17 (.t 1) [],oq 18 (.callp 4 [.t 16,.t 17]) [16,17],
 om 15 (.t 18) [18],oq 19 (.ext (.t 15) 0) [],oq 20 (.ext (.t 15) 1) [15],oq 10 (.new 23 [.int .u8 0,.int .u8 0,.int .u8 0,.int .u8 0,.int .u8 0,.int .u8 0,.int .u8 0,.int .u8 0,.int .u8 0,
 .int .u8 0,.int .u8 0,.int .u8 0,.int .u8 0,.int .u8 0,.int .u8 0,.int .u8 0]) [],ov (.store 16 (.t 10) (.t 19)) [19],om 11 (.t 20) [20]]) (.seq (.seq (.reg [om 21 (.t 11) [],oq 22 (.bin .neq (.t 21)
  (.c (.int .i64 0))) [21]]) (.cond (.t 22) (.seq (.reg [om 23 (.t 11) [11],om 8 (.c (.str [])) [],om 9 (.t 23) [23]]) (.ret)) (.skip))) (.seq (.seq (.reg [om 24 (.t 2) [],oq 25 (.bin .lss (.t 24)
  (.c (.int .i64 0))) [24],om 26 (.t 25) [25],og 27 (.mv (.t 2)) 26 false [],og 28 (.mv (.t 1)) 26 false [],og 29 (.bin .shl (.c (.int .i64 1)) (.t 28)) 26 false [28],og 30 (.bin .geq (.t 27)
  (.t 29)) 26 false [27,29],oq 31 (.pick (.t 26) (.c (.bool true)) (.t 30)) [26,30]]) (.cond (.t 31) (.seq (.reg [om 8 (.c (.str [])) [],om 9 (.c (.int .i64 22)) []]) (.ret)) (.skip)
 )) (.seq (.seq (.reg [om 32 (.t 3) [],oq 33 (.len true (.t 32)) [32],oq 34 (.bin .gtr (.t 33) (.c (.int .i64 1048576))) [33]]) (.cond (.t 34) (.seq (.reg [om 8 (.c (.str [])) [],om 9 (.c (.int .i64 2)
 ) []]) (.ret)) (.skip))) (.seq (.reg [om 36 (.t 0) [],om 37 (.t 1) [1],oq 38 (.call 11 [.t 36,.t 37]) [36,37],om 39 (.t 2) [],oq 40 (.call 23 [.t 38,.t 39]) [38,39],om 35 (.t 40) [40],
 oq 41 (.ext (.t 35) 0) [],oq 42 (.ext (.t 35) 1) [35],om 12 (.t 41) [41],om 13 (.t 42) [13,42]]) (.seq (.regP 6 [oh 43 (.mv (.t 0)) [] [] [44,46,47,48],oh 44 (.mv (.t 2)) [] [] [43,
 46,47,48],oh 45 (.callp 25 [.t 43,.t 44]) [] [0,1] [46,47,48],oh 46 (.load (some 16) (.t 10)) [] [] [43,44,45,47,48],oh 47 (.mv (.t 2)) [] [] [43,44,45,46,48],oh 48 (.mv (.t 3)) [0,
 3,10,43,44] [] [43,44,45,46,47],oh 49 (.callp 26 [.t 46,.t 47,.t 48]) [46,47,48] [0,1,2,3,4,5] [],oh 50 (.callp 24 [.t 45,.t 49]) [45,49] [0,1,2,3,4,5,6] [],oh 14 (.mv (.t 50)) [50] [0,
 1,2,3,4,5,6,7] []]) (.seq (.regD 10 [oh 51 (.mv (.t 2)) [] [] [54,58],oh 52 (.call 27 [.t 51]) [] [0] [54,58],oh 53 (.b2s (.t 52)) [] [0,1] [54,55,56,58,59,60],oh 54 (.mv (.t 14)) [] [] [51,
 52,53,58],oh 55 (.call 28 [.t 54]) [] [0,1,3] [53,58],oh 56 (.b2s (.t 55)) [] [0,1,3,4] [53,58,59,60],oh 57 (.bin .add (.t 53) (.t 56)) [] [0,1,2,3,4,5] [58,59,60],oh 58 (.mv (.t 12)
 ) [] [] [51,52,53,54,55,56,57],oh 59 (.call 29 [.t 58]) [] [0,1,3,4,7] [53,56,57],oh 60 (.b2s (.t 59)) [2,12,14,51,52,53,54,55,56,58,59] [0,1,3,4,7,8] [53,56,57],oh 61 (.bin .add (.t 57)
  (.t 60)) [57,60] [0,1,2,3,4,5,6,7,8,9] [],oh 8 (.mv (.t 61)) [61] [0,1,2,3,4,5,6,7,8,9,10] [],oh 9 (.mv (.c (.int .i64 0))) [] [0,1,2,3,4,5,6,7,8,9,10,11] []]) (.ret))))))))⟩
theorem chk207:chkF Tryz.prog 7 sf207=true:=by kernel_rfl

def sf210:SF:=⟨27,[.c 2 (some 16)],.seq (.reg [oq 2 (.new 23 [.int .u8 0,.int .u8 0,.int .u8 0,.int .u8 0,.int .u8 0,.int .u8 0,.int .u8 0,.int .u8 0,.int .u8 0,.int .u8 0,.int .u8 0,
 .int .u8 0,.int .u8 0,.int .u8 0,.int .u8 0,.int .u8 0]) []]) (.seq (.seq (.reg [om 4 (.t 0) [],oq 5 (.len false (.t 4)) [4],oq 6 (.bin .eql (.t 5) (.c (.int .i64 0))) [5]]) (.cond (.t 6)
  (.seq (.reg [oq 7 (.call 32 [.c (.int .i64 1),.c (.val (.slice none 0 0))]) [],ov (.store 16 (.t 2) (.t 7)) [7]]) (.ret)) (.skip))) (.seq (.seq (.reg [om 8 (.t 0) [],oq 9 (.len false (.t 8)
 ) [8],oq 10 (.bin .eql (.t 9) (.c (.int .i64 1))) [9]]) (.cond (.t 10) (.seq (.reg [om 11 (.t 0) [0],oq 12 (.idxS (.t 11) (.c (.int .i64 0)) 16) [11],oq 13 (.load (some 16) (.t 12))
  [12],oq 14 (.callp 33 [.t 13]) [13],ov (.store 16 (.t 2) (.t 14)) [14]]) (.ret)) (.skip))) (.seq (.reg [om 15 (.t 0) [],oq 16 (.len false (.t 15)) [15],oq 17 (.callp 34 [.t 16]) [16],
 om 3 (.t 17) [17]]) (.seq (.regD 7 [oh 18 (.mv (.t 0)) [] [] [19,22,23,24],oh 19 (.mv (.t 3)) [] [] [18,22,23,24],oh 20 (.slcS 16 (.t 18) none (some (.t 19))) [] [0,1] [22,23,24],oh 21 (.call 10 [.t 20])
  [] [0,1,2] [22,23,24],oh 22 (.mv (.t 0)) [] [] [18,19,20,21,23],oh 23 (.mv (.t 3)) [] [] [18,19,20,21,22],oh 24 (.slcS 16 (.t 22) (some (.t 23)) none) [0,3,18,19,20,22,23] [4,5] [18,
 19,20,21],oh 25 (.call 10 [.t 24]) [24] [0,1,2,3,4,5,6] [],oh 26 (.callp 35 [.t 21,.t 25]) [21,25] [0,1,2,3,4,5,6,7] [],⟨none,.store 16 (.t 2) (.t 26),none,[26],[0,1,2,3,4,5,6,7,8],
 []⟩]) (.ret)))))⟩
theorem chk210:chkF Tryz.prog 10 sf210=true:=by kernel_rfl

def sf211:SF:=⟨21,[.t 4],.seq (.reg [om 4 (.c (.val (.slice none 0 0))) [4]]) (.seq (.reg [om 5 (.c (.val (.slice none 0 0))) []]) (.seq (.seq (.reg [om 6 (.c (.int .i64 0)) []])
  (.block 0 (.loop (.seq (.seq (.reg [om 7 (.t 6) [],om 8 (.t 1) [],oq 9 (.bin .shl (.c (.int .i64 1)) (.t 8)) [8],oq 10 (.bin .lss (.t 7) (.t 9)) [7,9]]) (.cond (.t 10) (.skip) (.exit 0)
 )) (.seq (.block 1 (.reg [om 13 (.t 5) [5],om 14 (.t 0) [],om 15 (.t 6) [],oq 16 (.callp 25 [.t 14,.t 15]) [14,15],oq 17 (.callp 36 [.t 16]) [16],oq 18 (.bslice 23 16 1 [.int .u8 0,
 .int .u8 0,.int .u8 0,.int .u8 0,.int .u8 0,.int .u8 0,.int .u8 0,.int .u8 0,.int .u8 0,.int .u8 0,.int .u8 0,.int .u8 0,.int .u8 0,.int .u8 0,.int .u8 0,.int .u8 0] [(0,16,.t 17)])
  [17],oq 19 (.app 23 16 16 (.t 13) (.t 18)) [13,18],om 5 (.t 19) [19]])) (.reg [om 11 (.t 6) [6],oq 12 (.bin .add (.t 11) (.c (.int .i64 1))) [11],om 6 (.t 12) [12]])))))) (.seq (.reg [om 20 (.t 5)
  [5],om 4 (.t 20) [20]]) (.ret))))⟩
theorem chk211:chkF Tryz.prog 11 sf211=true:=by kernel_rfl

def sf223:SF:=⟨60,[.t 4,.t 5],.seq (.reg [om 4 (.c (.val (.slice none 0 0))) [4],om 5 (.c (.int .i64 0)) [5]]) (.seq (.seq (.reg [om 11 (.t 1) [],oq 12 (.bin .lss (.t 11) (.c (.int .i64 0)
 )) [11],om 13 (.t 12) [12],og 14 (.mv (.t 1)) 13 false [],og 15 (.mv (.t 0)) 13 false [],og 16 (.len false (.t 15)) 13 false [15],og 17 (.bin .geq (.t 14) (.t 16)) 13 false [14,16],
 oq 18 (.pick (.t 13) (.c (.bool true)) (.t 17)) [13,17]]) (.cond (.t 18) (.seq (.reg [om 4 (.c (.val (.slice none 0 0))) [],om 5 (.c (.int .i64 11)) []]) (.ret)) (.skip))) (.seq (.seq (.reg [om 19 (.t 0)
  [],oq 20 (.len false (.t 19)) [19],oq 21 (.bin .eql (.t 20) (.c (.int .i64 1))) [20]]) (.cond (.t 21) (.seq (.reg [om 4 (.c (.val (.slice none 0 0))) [],om 5 (.c (.int .i64 0)) []])
  (.ret)) (.skip))) (.seq (.reg [om 22 (.t 0) [],oq 23 (.len false (.t 22)) [22],oq 24 (.callp 34 [.t 23]) [23],om 6 (.t 24) [24]]) (.seq (.seq (.reg [om 25 (.t 1) [],om 26 (.t 6) [],
 oq 27 (.bin .lss (.t 25) (.t 26)) [25,26]]) (.cond (.t 27) (.seq (.reg [om 29 (.t 0) [],om 30 (.t 6) [],oq 31 (.slcS 16 (.t 29) none (some (.t 30))) [29,30],om 32 (.t 1) [1],oq 33 (.call 23 [.t 31,
 .t 32]) [31,32],om 28 (.t 33) [33],oq 34 (.ext (.t 28) 0) [],oq 35 (.ext (.t 28) 1) [28],om 7 (.t 34) [34],om 8 (.t 35) [8,35]]) (.seq (.reg [om 36 (.t 7) [7],om 37 (.t 0) [0],om 38 (.t 6)
  [6],oq 39 (.slcS 16 (.t 37) (some (.t 38)) none) [37,38],oq 40 (.call 10 [.t 39]) [39],oq 41 (.bslice 23 16 1 [.int .u8 0,.int .u8 0,.int .u8 0,.int .u8 0,.int .u8 0,.int .u8 0,.int .u8 0,
 .int .u8 0,.int .u8 0,.int .u8 0,.int .u8 0,.int .u8 0,.int .u8 0,.int .u8 0,.int .u8 0,.int .u8 0] [(0,16,.t 40)]) [40],oq 42 (.app 23 16 16 (.t 36) (.t 41)) [36,41],om 4 (.t 42) [42],
 om 5 (.c (.int .i64 0)) []]) (.ret))) (.skip))) (.seq (.reg [om 44 (.t 0) [],om 45 (.t 6) [],oq 46 (.slcS 16 (.t 44) (some (.t 45)) none) [44,45],om 47 (.t 1) [1],om 48 (.t 6) [],oq 49 (.bin .sub (.t 47)
  (.t 48)) [47,48],oq 50 (.call 23 [.t 46,.t 49]) [46,49],om 43 (.t 50) [50],oq 51 (.ext (.t 43) 0) [],oq 52 (.ext (.t 43) 1) [43],om 9 (.t 51) [51],om 10 (.t 52) [10,52]]) (.seq (.reg [om 53 (.t 9)
  [9],om 54 (.t 0) [0],om 55 (.t 6) [6],oq 56 (.slcS 16 (.t 54) none (some (.t 55))) [54,55],oq 57 (.call 10 [.t 56]) [56],oq 58 (.bslice 23 16 1 [.int .u8 0,.int .u8 0,.int .u8 0,.int .u8 0,
 .int .u8 0,.int .u8 0,.int .u8 0,.int .u8 0,.int .u8 0,.int .u8 0,.int .u8 0,.int .u8 0,.int .u8 0,.int .u8 0,.int .u8 0,.int .u8 0] [(0,16,.t 57)]) [57],oq 59 (.app 23 16 16 (.t 53)
  (.t 58)) [53,58],om 4 (.t 59) [59],om 5 (.c (.int .i64 0)) []]) (.ret)))))))⟩
theorem chk223:chkF Tryz.prog 23 sf223=true:=by kernel_rfl

def sf224:SF:=⟨27,[.t 4],.seq (.reg [oq 3 (.box 23 (.t 1)) [1],om 4 (.c (.str [])) [4]]) (.seq (.reg [oq 8 (.load (some 16) (.t 3)) [3],oq 9 (.call 48 [.t 8]) [8],om 5 (.t 9) [9]])
  (.seq (.reg [om 6 (.c (.str [])) []]) (.seq (.seq (.reg [om 7 (.c (.int .i64 0)) []]) (.block 0 (.loop (.seq (.seq (.reg [om 10 (.t 7) [],oq 11 (.bin .lss (.t 10) (.c (.int .i64 35)
 )) [10]]) (.cond (.t 11) (.skip) (.exit 0))) (.seq (.block 1 (.regP 11 [oh 14 (.mv (.t 6)) [] [] [15,16,17,18,19,20,21,22,23,24],oh 15 (.mv (.t 7)) [] [] [14,16,17,18,19,20,21,22],oh 16 (.mv (.t 5)
 ) [] [] [14,15,17,20,21,22],oh 17 (.mv (.t 7)) [] [] [14,15,16,20,21,22],oh 18 (.idxS (.t 16) (.t 17) 1) [] [2,3] [14,15,20,21,22],oh 19 (.load none (.t 18)) [] [2,3,4] [14,15,20,21,
 22],oh 20 (.mv (.t 0)) [] [] [14,15,16,17,18,19,21],oh 21 (.mv (.t 7)) [] [] [14,15,16,17,18,19,20],oh 22 (.callp 51 [.t 20,.t 21]) [] [6,7] [14,15,16,17,18,19],oh 23 (.callp 50 [.t 15,
 .c (.int .i64 0),.t 19,.t 22]) [] [1,2,3,4,5,6,7,8] [14],oh 24 (.callp 49 [.t 23]) [6,15,16,17,18,19,20,21,22,23] [1,2,3,4,5,6,7,8,9] [14],oh 25 (.bin .add (.t 14) (.t 24)) [14,24] [0,
 1,2,3,4,5,6,7,8,9,10] [],oh 6 (.mv (.t 25)) [25] [0,1,2,3,4,5,6,7,8,9,10,11] []])) (.reg [om 12 (.t 7) [7],oq 13 (.bin .add (.t 12) (.c (.int .i64 1))) [12],om 7 (.t 13) [13]]))))))
  (.seq (.reg [om 26 (.t 6) [6],om 4 (.t 26) [26]]) (.ret)))))⟩
theorem chk224:chkF Tryz.prog 24 sf224=true:=by kernel_rfl

def sf225:SF:=⟨11,[.t 4],.seq (.reg [om 4 (.c (.str [])) [4]]) (.seq (.reg [om 5 (.t 0) [0],om 6 (.t 1) [1],oq 7 (.call 27 [.t 6]) [6],oq 8 (.b2s (.t 7)) [7],oq 9 (.bslice 9 1 1 [.str []] [(0,
 1,.t 8)]) [8],oq 10 (.call 52 [.t 5,.c (.str [108,101,97,102]),.t 9]) [5,9],om 4 (.t 10) [10]]) (.ret))⟩
theorem chk225:chkF Tryz.prog 25 sf225=true:=by kernel_rfl

def sf229:SF:=⟨29,[.t 2],.seq (.reg [om 2 (.c (.val (.slice none 0 0))) [2]]) (.seq (.reg [om 6 (.t 0) [],oq 7 (.len false (.t 6)) [6],oq 8 (.call 27 [.t 7]) [7],om 3 (.t 8) [8]])
  (.seq (.seq (.reg [om 4 (.c (.int .i64 0)) []]) (.block 0 (.loop (.seq (.seq (.reg [om 9 (.t 4) [],om 10 (.t 0) [],oq 11 (.len false (.t 10)) [10],oq 12 (.bin .lss (.t 9) (.t 11)) [9,
 11]]) (.cond (.t 12) (.skip) (.exit 0))) (.seq (.block 1 (.seq (.reg [om 5 (.c (.int .i64 0)) []]) (.block 2 (.loop (.seq (.seq (.reg [om 15 (.t 5) [],oq 16 (.bin .lss (.t 15) (.c (.int .i64 16)
 )) [15]]) (.cond (.t 16) (.skip) (.exit 2))) (.seq (.block 3 (.reg [om 19 (.t 3) [3],om 20 (.t 0) [],om 21 (.t 4) [],om 22 (.t 5) [],oq 23 (.idxS (.t 20) (.t 21) 16) [20,21],oq 24 (.idxA (.t 23)
  (.t 22) 16 1) [22,23],oq 25 (.load none (.t 24)) [24],oq 26 (.bslice 5 1 1 [.int .u8 0] [(0,1,.t 25)]) [25],oq 27 (.app 5 1 1 (.t 19) (.t 26)) [19,26],om 3 (.t 27) [27]])) (.reg [om 17 (.t 5)
  [5],oq 18 (.bin .add (.t 17) (.c (.int .i64 1))) [17],om 5 (.t 18) [18]]))))))) (.reg [om 13 (.t 4) [4],oq 14 (.bin .add (.t 13) (.c (.int .i64 1))) [13],om 4 (.t 14) [14]])))))) (.seq (.reg [om 28 (.t 3)
  [3],om 2 (.t 28) [28]]) (.ret))))⟩
theorem chk229:chkF Tryz.prog 29 sf229=true:=by kernel_rfl

def sf233:SF:=⟨7,[.c 2 (some 16)],.seq (.reg [oq 1 (.box 23 (.t 0)) [0],oq 2 (.new 23 [.int .u8 0,.int .u8 0,.int .u8 0,.int .u8 0,.int .u8 0,.int .u8 0,.int .u8 0,.int .u8 0,.int .u8 0,
 .int .u8 0,.int .u8 0,.int .u8 0,.int .u8 0,.int .u8 0,.int .u8 0,.int .u8 0]) []]) (.seq (.reg [oq 3 (.load (some 16) (.t 1)) [1],oq 4 (.callp 49 [.t 3]) [3],oq 5 (.bslice 9 1 1 [.str []] [(0,
 1,.t 4)]) [4],oq 6 (.call 32 [.c (.int .i64 1),.t 5]) [5],ov (.store 16 (.t 2) (.t 6)) [6]]) (.ret))⟩
theorem chk233:chkF Tryz.prog 33 sf233=true:=by kernel_rfl

def sf235:SF:=⟨11,[.c 4 (some 16)],.seq (.reg [oq 2 (.box 23 (.t 0)) [0],oq 3 (.box 23 (.t 1)) [1],oq 4 (.new 23 [.int .u8 0,.int .u8 0,.int .u8 0,.int .u8 0,.int .u8 0,.int .u8 0,
 .int .u8 0,.int .u8 0,.int .u8 0,.int .u8 0,.int .u8 0,.int .u8 0,.int .u8 0,.int .u8 0,.int .u8 0,.int .u8 0]) []]) (.seq (.regP 3 [oh 5 (.load (some 16) (.t 2)) [] [] [7],oh 6 (.callp 49 [.t 5])
  [] [0] [7],oh 7 (.load (some 16) (.t 3)) [2,3,5] [] [5,6],oh 8 (.callp 49 [.t 7]) [7] [0,1,2] [],oh 9 (.bslice 9 1 2 [.str [],.str []] [(0,1,.t 6),(1,1,.t 8)]) [6,8] [0,1,2,3] [],oh 10 (.call 32 [.c (.int .i64 2)
 ,.t 9]) [9] [0,1,2,3,4] [],⟨none,.store 16 (.t 4) (.t 10),none,[10],[0,1,2,3,4,5],[]⟩]) (.ret))⟩
theorem chk235:chkF Tryz.prog 35 sf235=true:=by kernel_rfl

def sf236:SF:=⟨20,[.c 2 (some 16)],.seq (.reg [oq 2 (.new 23 [.int .u8 0,.int .u8 0,.int .u8 0,.int .u8 0,.int .u8 0,.int .u8 0,.int .u8 0,.int .u8 0,.int .u8 0,.int .u8 0,.int .u8 0,
 .int .u8 0,.int .u8 0,.int .u8 0,.int .u8 0,.int .u8 0]) []]) (.seq (.reg [om 3 (.c (.str [])) []]) (.seq (.seq (.reg [om 4 (.c (.int .i64 0)) []]) (.block 0 (.loop (.seq (.seq (.reg [om 5 (.t 4)
  [],oq 6 (.bin .lss (.t 5) (.c (.int .i64 35))) [5]]) (.cond (.t 6) (.skip) (.exit 0))) (.seq (.block 1 (.reg [om 9 (.t 3) [3],om 10 (.t 4) [],om 11 (.t 0) [],om 12 (.t 4) [],oq 13 (.callp 51 [.t 11,
 .t 12]) [11,12],oq 14 (.callp 50 [.t 10,.c (.int .i64 0),.c (.int .i64 15),.t 13]) [10,13],oq 15 (.callp 49 [.t 14]) [14],oq 16 (.bin .add (.t 9) (.t 15)) [9,15],om 3 (.t 16) [16]])
 ) (.reg [om 7 (.t 4) [4],oq 8 (.bin .add (.t 7) (.c (.int .i64 1))) [7],om 4 (.t 8) [8]])))))) (.seq (.reg [om 17 (.t 3) [3],oq 18 (.bslice 9 1 1 [.str []] [(0,1,.t 17)]) [17],oq 19 (.call 32 [.c (.int .i64 5)
 ,.t 18]) [18],ov (.store 16 (.t 2) (.t 19)) [19]]) (.ret))))⟩
theorem chk236:chkF Tryz.prog 36 sf236=true:=by kernel_rfl

def sf251:SF:=⟨12,[.c 4 (some 16)],.seq (.reg [oq 4 (.new 23 [.int .u8 0,.int .u8 0,.int .u8 0,.int .u8 0,.int .u8 0,.int .u8 0,.int .u8 0,.int .u8 0,.int .u8 0,.int .u8 0,.int .u8 0,
 .int .u8 0,.int .u8 0,.int .u8 0,.int .u8 0,.int .u8 0]) []]) (.seq (.reg [om 5 (.t 0) [0],om 6 (.t 1) [1],oq 7 (.call 27 [.t 6]) [6],oq 8 (.b2s (.t 7)) [7],oq 9 (.bslice 9 1 1 [.str []] [(0,
 1,.t 8)]) [8],oq 10 (.call 52 [.t 5,.c (.str [99,104,97,105,110]),.t 9]) [5,9],oq 11 (.callp 73 [.t 10]) [10],ov (.store 16 (.t 4) (.t 11)) [11]]) (.ret))⟩
theorem chk251:chkF Tryz.prog 51 sf251=true:=by kernel_rfl

def sf252:SF:=⟨12,[.t 6],.seq (.reg [om 6 (.c (.str [])) [6]]) (.seq (.reg [om 7 (.t 0) [0],om 8 (.t 1) [1],om 9 (.t 2) [2],oq 10 (.call 75 [.t 8,.t 9]) [8,9],oq 11 (.callp 74 [.t 7,
 .t 10]) [7,10],om 6 (.t 11) [11]]) (.ret))⟩
theorem chk252:chkF Tryz.prog 52 sf252=true:=by kernel_rfl

def sf274:SF:=⟨22,[.t 4],.seq (.reg [om 4 (.c (.str [])) [4]]) (.seq (.reg [om 7 (.t 0) [],oq 8 (.call 91 [.t 7,.c (.int .u8 54)]) [7],om 5 (.t 8) [8]]) (.seq (.reg [om 9 (.t 5)
  [5],om 10 (.t 1) [1],oq 11 (.app 5 1 1 (.t 9) (.t 10)) [9,10],om 5 (.t 11) [11]]) (.seq (.reg [om 12 (.t 0) [0],oq 13 (.call 91 [.t 12,.c (.int .u8 92)]) [12],om 6 (.t 13) [13]]) (.seq (.reg [om 14 (.t 6)
  [6],om 15 (.t 5) [5],oq 16 (.call 88 [.t 15]) [15],oq 17 (.callp 92 [.t 16]) [16],oq 18 (.app 5 1 1 (.t 14) (.t 17)) [14,17],om 6 (.t 18) [18]]) (.seq (.reg [om 19 (.t 6) [6],oq 20 (.call 88 [.t 19])
  [19],oq 21 (.callp 92 [.t 20]) [20],om 4 (.t 21) [21]]) (.ret))))))⟩
theorem chk274:chkF Tryz.prog 74 sf274=true:=by kernel_rfl

def sf275:SF:=⟨26,[.t 4],.seq (.reg [om 4 (.c (.str [])) [4]]) (.seq (.reg [oq 7 (.bslice 5 1 0 [] []) [],om 8 (.t 0) [0],oq 9 (.call 28 [.t 8]) [8],oq 10 (.app 5 1 1 (.t 7) (.t 9)
 ) [7,9],om 5 (.t 10) [10]]) (.seq (.seq (.reg [om 6 (.c (.int .i64 0)) []]) (.block 0 (.loop (.seq (.seq (.reg [om 11 (.t 6) [],om 12 (.t 1) [],oq 13 (.len false (.t 12)) [12],oq 14 (.bin .lss (.t 11)
  (.t 13)) [11,13]]) (.cond (.t 14) (.skip) (.exit 0))) (.seq (.block 1 (.reg [om 17 (.t 5) [5],om 18 (.t 1) [],om 19 (.t 6) [],oq 20 (.idxS (.t 18) (.t 19) 1) [18,19],oq 21 (.load none (.t 20)
 ) [20],oq 22 (.call 28 [.t 21]) [21],oq 23 (.app 5 1 1 (.t 17) (.t 22)) [17,22],om 5 (.t 23) [23]])) (.reg [om 15 (.t 6) [6],oq 16 (.bin .add (.t 15) (.c (.int .i64 1))) [15],om 6 (.t 16)
  [16]])))))) (.seq (.reg [om 24 (.t 5) [5],oq 25 (.b2s (.t 24)) [24],om 4 (.t 25) [25]]) (.ret))))⟩
theorem chk275:chkF Tryz.prog 75 sf275=true:=by kernel_rfl

def sf291:SF:=⟨35,[.t 4],.seq (.reg [om 4 (.c (.val (.slice none 0 0))) [4]]) (.seq (.reg [om 9 (.t 0) [],om 5 (.t 9) [9]]) (.seq (.seq (.reg [om 10 (.t 0) [],oq 11 (.len true (.t 10)
 ) [10],oq 12 (.bin .gtr (.t 11) (.c (.int .i64 64))) [11]]) (.cond (.t 12) (.reg [om 13 (.t 0) [0],oq 14 (.s2b 5 (.t 13)) [13],oq 15 (.call 88 [.t 14]) [14],oq 16 (.callp 92 [.t 15])
  [15],om 5 (.t 16) [16]]) (.skip))) (.seq (.reg [om 6 (.c (.val (.slice none 0 0))) []]) (.seq (.seq (.reg [om 7 (.c (.int .i64 0)) []]) (.block 0 (.loop (.seq (.seq (.reg [om 17 (.t 7)
  [],oq 18 (.bin .lss (.t 17) (.c (.int .i64 64))) [17]]) (.cond (.t 18) (.skip) (.exit 0))) (.seq (.block 1 (.seq (.reg [om 8 (.c (.int .u8 0)) []]) (.seq (.seq (.reg [om 21 (.t 7) [],
 om 22 (.t 5) [],oq 23 (.len true (.t 22)) [22],oq 24 (.bin .lss (.t 21) (.t 23)) [21,23]]) (.cond (.t 24) (.reg [om 25 (.t 5) [],om 26 (.t 7) [],oq 27 (.idxT (.t 25) (.t 26)) [25,26],
 om 8 (.t 27) [27]]) (.skip))) (.reg [om 28 (.t 6) [6],om 29 (.t 8) [8],om 30 (.t 1) [],oq 31 (.bin .xor (.t 29) (.t 30)) [29,30],oq 32 (.bslice 5 1 1 [.int .u8 0] [(0,1,.t 31)]) [31],
 oq 33 (.app 5 1 1 (.t 28) (.t 32)) [28,32],om 6 (.t 33) [33]])))) (.reg [om 19 (.t 7) [7],oq 20 (.bin .add (.t 19) (.c (.int .i64 1))) [19],om 7 (.t 20) [20]])))))) (.seq (.reg [om 34 (.t 6)
  [6],om 4 (.t 34) [34]]) (.ret))))))⟩
theorem chk291:chkF Tryz.prog 91 sf291=true:=by kernel_rfl

def sf292:SF:=⟨17,[.t 2],.seq (.reg [oq 1 (.box 121 (.t 0)) [0],om 2 (.c (.str [])) [2]]) (.seq (.reg [om 3 (.c (.val (.slice none 0 0))) []]) (.seq (.seq (.reg [om 4 (.c (.int .i64 0)
 ) []]) (.block 0 (.loop (.seq (.seq (.reg [om 5 (.t 4) [],oq 6 (.bin .lss (.t 5) (.c (.int .i64 32))) [5]]) (.cond (.t 6) (.skip) (.exit 0))) (.seq (.block 1 (.reg [om 9 (.t 3) [3],
 om 10 (.t 4) [],oq 11 (.idxA (.t 1) (.t 10) 32 1) [10],oq 12 (.load none (.t 11)) [11],oq 13 (.bslice 5 1 1 [.int .u8 0] [(0,1,.t 12)]) [12],oq 14 (.app 5 1 1 (.t 9) (.t 13)) [9,13],
 om 3 (.t 14) [14]])) (.reg [om 7 (.t 4) [4],oq 8 (.bin .add (.t 7) (.c (.int .i64 1))) [7],om 4 (.t 8) [8]])))))) (.seq (.reg [om 15 (.t 3) [3],oq 16 (.b2s (.t 15)) [15],om 2 (.t 16)
  [16]]) (.ret))))⟩
theorem chk292:chkF Tryz.prog 92 sf292=true:=by kernel_rfl

end Go.Proofs.YtkfbkooobfepeaaGreatDoor.Sf

/- The reference's encoding of an integer. -/
namespace Go.Proofs.YtkfbkooobfepeaaGreatDoor
open Go Go.Sx Sf
set_option maxRecDepth 100000
set_option linter.unusedVariables false
variable {tS:List (Nat × List SV)}
theorem wrap64_le {x:Int} (h:0≤x):IntKind.i64.wrap x≤x∧IntKind.i64.wrap x≤9223372036854775807:=by
  simp only [IntKind.wrap,IntKind.bits,IntKind.signed]
  simp
  omega
def nxtR (m:Int):Int:=IntKind.i64.wrap (m.tdiv 256)
theorem nxtR_lt {m:Int} (h:m > 0):(nxtR m).toNat < m.toNat∧nxtR m≤9223372036854775807:=by
  have h1:0≤m.tdiv 256:=Int.tdiv_nonneg (by omega) (by omega)
  have h2:m.tdiv 256 < m:=by rw [Int.tdiv_eq_ediv_of_nonneg (by omega)];omega
  have:=wrap64_le h1
  unfold nxtR
  omega
def digs:Nat→Int→List UInt8
  | 0,_=>[]
  | f+1,m=>if m > 0 then wrapB (m.tmod 256) :: digs f (nxtR m) else []
theorem digs_fuel:∀ (f:Nat) (m:Int),m.toNat≤f→digs f m=digs m.toNat m
  | 0,m,h=>by
    have:m.toNat=0:=by omega
    rw [this]
  | f+1,m,h=>by
    by_cases hm:m > 0
    · have h1:=nxtR_lt hm
      obtain ⟨j,hj⟩:∃ j,m.toNat=j+1:=⟨m.toNat - 1,by omega⟩
      rw [hj]
      simp only [digs,hm,if_true]
      rw [digs_fuel f (nxtR m) (by omega),digs_fuel j (nxtR m) (by omega)]
    · have:m.toNat=0:=by omega
      rw [this]
      simp only [digs,hm,if_false]
termination_by f=>f
def dig (m:Int):List UInt8:=digs m.toNat m
theorem dig_pos {m:Int} (h:m > 0):dig m=wrapB (m.tmod 256) :: dig (nxtR m):=by
  unfold dig
  obtain ⟨j,hj⟩:∃ j,m.toNat=j+1:=⟨m.toNat - 1,by omega⟩
  rw [hj]
  simp only [digs,h,if_true]
  rw [digs_fuel j _ (by have:=nxtR_lt h;omega)]
theorem dig_neg {m:Int} (h:¬ m > 0):dig m=[]:=by
  unfold dig
  have:m.toNat=0:=by omega
  rw [this];rfl
theorem dig_len:∀ (j:Nat) (m:Int),m < 256 ^ j→(dig m).length≤j
  | 0,m,h=>by rw [dig_neg (by simp at h;omega)];simp
  | j+1,m,h=>by
    by_cases hm:m > 0
    · rw [dig_pos hm]
      have h1:0≤m.tdiv 256:=Int.tdiv_nonneg (by omega) (by omega)
      have h2:m.tdiv 256 < 256 ^ j:=by
        rw [Int.tdiv_eq_ediv_of_nonneg (by omega)]
        rw [Int.pow_succ] at h
        omega
      have:=(wrap64_le h1).1
      have:=dig_len j (nxtR m) (by unfold nxtR;omega)
      simp only [List.length_cons];omega
    · rw [dig_neg hm];simp
theorem dig_len9 (m:Int):(dig m).length≤9:=by
  by_cases hm:m > 0
  · rw [dig_pos hm]
    have:=dig_len 8 (nxtR m) (by have:=nxtR_lt hm;have:(256:Int) ^ 8=18446744073709551616:=by decide
                                 omega)
    simp only [List.length_cons];omega
  · rw [dig_neg hm];simp

def magR (n:Int):Int:=if n < 0 then IntKind.i64.wrap (-1 - n) else n
def hdR (n:Int):UInt8:=if n ≥ 0 then wrapB (IntKind.i64.wrap (128+((dig (magR n)).length:Int))) else wrapB (IntKind.i64.wrap (127 - ((dig (magR n)).length:Int)))
def turnR (n:Int) (d:UInt8):UInt8:=if n < 0 then wrapB (255 - (d.toNat:Int)) else d
def encR (n:Int):List UInt8:=hdR n :: (dig (magR n)).reverse.map (turnR n)
theorem encR_len (n:Int):(encR n).length≤10:=by
  have:=dig_len9 (magR n)
  simp [encR];omega

set_option maxHeartbeats 4000000 in
theorem f38 (n:Int):Fun Tryz.prog tS 27 [.int .i64 n] [] 0 (.slc 0 0 1 (encR n).length none) [(0,⟨.own 5,bys (encR n)⟩)] 1:=by
  refine fun_any none cF cF_ok chk38 (show 1≤59 by decide) (Nat.zero_le _) ?_
  unfold sf38 om oq
  have hlen:=encR_len n
  have hd9:=dig_len9 (magR n)
  have key:(IntKind.i64.wrap (-1 - n)=magR n∧n < 0)∨(magR n=n∧¬ n < 0):=by
    unfold magR
    by_cases hn:n < 0
    · left;rw [if_pos hn];exact ⟨rfl,hn⟩
    · right;rw [if_neg hn];exact ⟨rfl,hn⟩
  rcases key with ⟨k1,hn⟩ | ⟨k1,hn⟩
  all_goals
    simp (config:={ maxSteps:=1000000 }) only [hn,reduceCtorEq,Nat.reduceEqDiff,Int.reduceNeg,eq_self,frOf,↓reduceIte,↓binI,Opd.ev,Sx.get,put,putO,del,dels,BB,↓PB]
    rw [den_loop]
    refine den_inv cF_ok (σ:=Int × List UInt8) (fun s=>[(4,nlS 0 1 s.2.length),(3,.int .i64 s.1),(0,.int .i64 n)]) (fun s=>nlM 0 5 (bys s.2) [] s.2.length) (fun s=>nlN 0 s.2.length)
      (fun s=>s.2++dig s.1=dig (magR n)) (fun s=>s.1.toNat) (magR n,[]) ⟨[],by simp [EntM,compat,apartM,keysBelow,idHs,BB],by simp [k1,frEnt,geto,SV.ren,Nat.reduceEqDiff,↓reduceIte,reduceCtorEq,BB]⟩ rfl ?_
    rintro ⟨m,pre⟩ hpre
    simp only at hpre
    have hl:=congrArg List.length hpre
    simp only [List.length_append] at hl
    by_cases hm:m > 0
    · rw [dig_pos hm,← List.singleton_append,← List.append_assoc] at hpre
      have hb:=wrapB_sv (m.tmod 256)
      have hdec:=(nxtR_lt hm).1
      cases pre with
      | nil=>
        simp (config:={ maxSteps:=1000000 }) only [hm,reduceCtorEq,Nat.reduceEqDiff,Nat.reduceAdd,Int.reduceNe,eq_self,↓reduceIte,↓binI,↓fillE,Opd.ev,Sx.get,put,putO,del,dels,rd,splice,SV.cells?,SV.one,BB,↓PB]
        exact ⟨by omega,by omega,(nxtR m,_),⟨[(1,0)],by simp [hb,EntM,compat,apartM,keysBelow,eta,idHs,rd,↓reduceIte,Kind.isOwn,exists_eq_left',ne_eq,implies_true,forall_const,BB],by simp [nxtR,frEnt,geto,eta,SV.ren,Nat.reduceEqDiff,↓reduceIte,reduceCtorEq,BB]⟩,hpre,by simp only;omega⟩
      | cons c pre=>
        have h9:pre.length≤9:=by simp at hl;omega
        simp (config:={ maxSteps:=1000000 }) only [hm,reduceCtorEq,Nat.reduceEqDiff,Nat.reduceAdd,Int.reduceNe,eq_self,↓reduceIte,↓binI,↓fillE,Opd.ev,Sx.get,put,putO,del,dels,rd,rm,splice,SV.cells?,SV.one,BB,↓PB]
        rw [hb,bytes_app1]
        exact ⟨by omega,by omega,(nxtR m,_),⟨[(2,0)],by simp [EntM,compat,apartM,keysBelow,eta,idHs,rd,↓reduceIte,Kind.isOwn,exists_eq_left',ne_eq,implies_true,forall_const,BB],by simp [nxtR,frEnt,geto,eta,SV.ren,Nat.reduceEqDiff,↓reduceIte,reduceCtorEq,BB]⟩,hpre,by simp only;omega⟩
    · rw [dig_neg hm,List.append_nil] at hpre
      subst hpre
      have key2:encR n=hdR n :: (dig (magR n)).reverse.map (turnR n):=rfl
      generalize hds:dig (magR n)=ds at *
      have hh:hdR n=if n ≥ 0 then wrapB (IntKind.i64.wrap (128+(ds.length:Int))) else wrapB (IntKind.i64.wrap (127 - (ds.length:Int))):=by unfold hdR;rw [hds]
      have hb1:=wrapB_sv (IntKind.i64.wrap (128+(ds.length:Int)))
      have hb2:=wrapB_sv (IntKind.i64.wrap (127 - (ds.length:Int)))
      have w0:IntKind.i64.wrap ((ds.length:Int) - 1)=(ds.length:Int) - 1:=wrap64_eq (by omega) (by omega)
      have hn2:(n ≥ 0)=¬ (n < 0):=by simp
      have hhd:SV.int .u8 (IntKind.u8.wrap (IntKind.i64.wrap (if n ≥ 0 then 128+(ds.length:Int) else 127 - (ds.length:Int))))=SV.byte (hdR n):=by
        rw [hh]
        by_cases hc:n ≥ 0
        · rw [if_pos hc,if_pos hc];exact hb1
        · rw [if_neg hc,if_neg hc];exact hb2
      simp only [hn2,hn,not_true_eq_false,not_false_eq_true,if_true,if_false] at hhd
      cases ds with
      | nil=>
        simp (config:={ maxSteps:=1000000 }) only [hm,hn,hn2,reduceCtorEq,Nat.reduceEqDiff,Nat.reduceAdd,Int.reduceLE,Int.reduceAdd,Int.reduceSub,Int.reduceNeg,eq_self,↓reduceIte,↓binI,↓fillE,Opd.ev,Sx.get,put,putO,del,dels,rd,splice,SV.cells?,SV.one,BB,↓PB]
        simp only [List.length_nil,Int.natCast_zero,Int.add_zero,Int.sub_zero,wrap64_eq,Int.reduceNeg,Int.reduceLE] at hhd
        rw [den_loop]
        refine ⟨by omega,by omega,den_unroll cF_ok (callT_point _ _) 2 ?_⟩
        simp (config:={ maxSteps:=1000000 }) only [Int.reduceGE,reduceCtorEq,Nat.reduceEqDiff,Int.reduceNeg,eq_self,↓reduceIte,↓binI,↓evRes,Opd.ev,Sx.get,put,putO,del,dels,retOf,eta,SV.ren,BB,↓PB]
        exact ⟨[(1,0)],by simp [hhd,key2,EntM,compat,apartM,keysBelow,eta,idHs,rd,↓reduceIte,Kind.isOwn,exists_eq_left',ne_eq,implies_true,forall_const,BB],by simp [key2,BB]⟩
      | cons d ds=>
        simp only [List.length_cons] at hhd w0 hd9
        simp (config:={ maxSteps:=1000000 }) only [hm,hn,hn2,w0,reduceCtorEq,Nat.reduceEqDiff,Nat.reduceAdd,eq_self,↓reduceIte,↓binI,↓fillE,Opd.ev,Sx.get,put,putO,del,dels,rd,splice,SV.cells?,SV.one,BB,↓PB]
        refine ⟨by omega,by omega,?_⟩
        rw [den_loop]
        refine den_inv cF_ok (σ:=Nat × List UInt8) (fun s=>[(7,.int .i64 ((s.1:Int) - 1)),(6,.slc 1 0 1 s.2.length none),(4,.slc 0 0 1 (ds.length+1) none),(0,.int .i64 n)])
          (fun s=>[(1,⟨.own 5,bys s.2⟩),(0,⟨.own 5,bys (d :: ds)⟩)]) (fun _=>2) (fun s=>s.1≤ds.length+1∧s.2++((d :: ds).take s.1).reverse.map (turnR n)=encR n) (fun s=>s.1) (ds.length+1,[hdR n]) ?_ ⟨Nat.le_refl _,?_⟩ ?_
        · exact ⟨[(0,0),(2,0)],by simp only [hhd,EntM,compat,apartM,keysBelow,eta,idHs,rd,Nat.reduceAdd,Nat.reduceSub,Nat.reduceLT,Nat.reduceLeDiff,↓reduceIte,Kind.isOwn,exists_eq_left',ne_eq,implies_true,false_imp_iff,forall_const,reduceCtorEq,forall_eq,BB],by simp only [frEnt,geto,eta,SV.ren,Nat.reduceAdd,Nat.reduceSub,Nat.reduceEqDiff,↓reduceIte,reduceCtorEq,BB]⟩
        · rw [key2,List.take_of_length_le (by simp)];rfl
        · rintro ⟨i,pre⟩ ⟨hi,hpre⟩
          simp only at hi hpre
          by_cases hi0:i=0
          · subst hi0
            simp only [BB] at hpre
            subst hpre
            simp (config:={ maxSteps:=1000000 }) only [Int.reduceGE,reduceCtorEq,Nat.reduceEqDiff,Int.reduceSub,Int.reduceNeg,eq_self,↓reduceIte,↓binI,↓evRes,Opd.ev,Sx.get,put,putO,del,dels,retOf,eta,SV.ren,BB,↓PB]
            exact ⟨[(1,0)],by simp [EntM,compat,apartM,keysBelow,eta,idHs,rd,↓reduceIte,Kind.isOwn,exists_eq_left',ne_eq,implies_true,forall_const,BB],by simp [BB]⟩
          · have q0:(i:Int) - 1 ≥ 0:=by omega
            have v2:IntKind.i64.wrap ((i:Int) - 1 - 1)=(i:Int) - 1 - 1:=wrap64_eq (by omega) (by omega)
            have q1:((i:Int) - 1 < ((ds.length+1:Nat):Int)):=by omega
            have q2:((i:Int) - 1).toNat=i - 1:=by omega
            obtain ⟨x,hx⟩:∃ x,(d :: ds)[i - 1]?=some x:=⟨_,List.getElem?_eq_getElem (by simp;omega)⟩
            have gx:=get_bysI hx
            have hc:turnR n x=(if n < 0 then wrapB (255 - (x.toNat:Int)) else x):=rfl
            have q3:i - 1 < ds.length+1:=by omega
            have hb3:=wrapB_sv (255 - (x.toNat:Int))
            simp (config:={ maxSteps:=1000000 }) only [hn,q0,q1,q2,q3,v2,gx,reduceCtorEq,Nat.reduceEqDiff,Nat.reduceAdd,eq_self,↓reduceIte,↓binI,↓fillE,Opd.ev,Sx.get,put,putO,del,dels,rd,rm,splice,SV.cells?,SV.one,BB,↓PB]
            rw [take_succ_rev hi0 hx,List.map_cons,← List.singleton_append,← List.append_assoc,hc] at hpre
            simp only [hn,if_true,if_false] at hpre
            have h10:pre.length≤10:=by have:=congrArg List.length hpre;simp at this;omega
            have hci:((i - 1:Nat):Int)=(i:Int) - 1:=by omega
            first
              | rw [hb3,bytes_app1]
              | rw [byte_I,bytes_app1]
            exact ⟨by omega,by omega,(i - 1,_),⟨[(0,0),(3,0)],by simp [EntM,compat,apartM,keysBelow,eta,idHs,rd,Nat.reduceAdd,Nat.reduceLeDiff,↓reduceIte,Kind.isOwn,exists_eq_left',ne_eq,implies_true,forall_const,reduceCtorEq,forall_eq,BB],by simp [hci,frEnt,geto,eta,SV.ren,Nat.reduceAdd,Nat.reduceEqDiff,Nat.reduceLeDiff,↓reduceIte,reduceCtorEq,BB]⟩,⟨by simp only;omega,hpre⟩,by simp only;omega⟩
def gIntR:GS
  | [.int .i64 n],[]=>some (.slc 0 0 1 (encR n).length none,[(0,⟨.own 5,bys (encR n)⟩)],1)
  | _,_=>none
theorem gIntR_ok:FunS Tryz.prog tS 27 gIntR:=by
  intro a0 m0 r m1 n1 h
  unfold gIntR at h
  split at h
  · cases h;exact ⟨f38 _,by simp [freshB]⟩
  · cases h
end Go.Proofs.YtkfbkooobfepeaaGreatDoor

/- The reference's encodings of lists of integers and of texts; the joining of slices. -/
namespace Go.Proofs.YtkfbkooobfepeaaGreatDoor
open Go Go.Sx Sf
set_option maxRecDepth 100000
set_option linter.unusedVariables false
variable {tS:List (Nat × List SV)}
def tabB:List (FuncId × GS):=[(27,gIntR)]
theorem tabB_ok:∀ x ∈ tabB,FunS Tryz.prog tS x.1 x.2:=by
  intro x hx
  simp only [tabB,List.mem_cons,List.not_mem_nil,or_false] at hx
  rcases hx with rfl
  exact gIntR_ok
def encSR (s:List UInt8):List UInt8:=encR s.length++s
theorem f36 (s:List UInt8) (hs:s.length≤2 ^ 39):Fun Tryz.prog tS 28 [.str s] [] 0 (.slc 0 0 1 (encSR s).length none) [(0,⟨.own 5,bys (encSR s)⟩)] 1:=by
  refine fun_any none (callS tabB cF) (callS_ok tabB_ok cF_ok) chk36 (show 1≤9 by decide) (by decide) ?_
  unfold sf36 om oq
  have hI:=encR_len s.length
  simp (config:={ maxSteps:=1000000 }) only [tabB,gIntR,lookF,reduceCtorEq,Nat.reduceEqDiff,Nat.reduceAdd,eq_self, true_and,List.length_nil,List.append_nil,List.drop_zero,List.map_cons,List.map_nil,Nat.zero_add,Nat.add_zero,frOf,den_nil,den_o0,den_o1,kont_app,den_reg,den_seq,den_ret,finE_r,↓reduceIte,↓e_app,↓e_mv,↓e_s2b,↓e_call,↓e_len,↓u_srcOf,↓u_srcSl,↓evRes,Opd.ev,Sx.get,put,putO,del,dels,rd,rm,retOf,↓u_callS,canLW,canV,belowL,apH,eta,SV.ren,newOwn,targets,rms,Kind.isOwn,ren_bytes,List.getElem?_nil,Option.getD_none,Nat.sub_zero,Nat.le_refl,take_bytes,map_byte,len_bytes,Nat.mul_one]
  exact ⟨by omega,by omega,[(2,0)],by simp [encSR,bytes_app,EntM,compat,apartM,keysBelow,eta,idHs,rd,Option.getD_some,List.length_cons,List.length_nil,Nat.zero_add,Nat.add_zero,↓reduceIte,Kind.isOwn,List.take_zero,and_self,true_and,exists_eq_left',Option.some.injEq,ne_eq,implies_true,List.not_mem_nil,Bool.true_or,forall_const,ren_bytes],by simp [encSR,Option.getD_some,List.length_cons,List.length_nil,Nat.zero_add,Nat.add_zero]⟩
def gBytesR:GS
  | [.str s],[]=>if s.length≤2 ^ 39 then some (.slc 0 0 1 (encSR s).length none,[(0,⟨.own 5,bys (encSR s)⟩)],1) else none
  | _,_=>none
theorem gBytesR_ok:FunS Tryz.prog tS 28 gBytesR:=by
  intro a0 m0 r m1 n1 h
  unfold gBytesR at h
  split at h
  · split at h
    · cases h
      exact ⟨f36 _ (by assumption),by simp [freshB]⟩
    · cases h
  · cases h

theorem f37 (d:List UInt8) (hd:d.length=16):Fun Tryz.prog tS 49 [.agg (bys d)] [] 0 (.str d) [] 0:=by
  refine fun_any none cF cF_ok chk37 (show 1≤17 by decide) (by decide) ?_
  unfold sf37 om oq
  simp (config:={ maxSteps:=1000000 }) only [reduceCtorEq,Nat.reduceEqDiff,eq_self,Nat.zero_add,frOf,den_o0,den_o1,kont_app,den_reg,den_seq,den_block,↓reduceIte,↓e_box,↓e_mv,Opd.ev,Sx.get,put,putO,del,dels,SV.cells?]
  rw [den_loop]
  refine den_inv cF_ok (σ:=Nat) (fun i=>[(4,.int .i64 (i:Int)),(3,nlS 1 1 i),(1,.ptr 0 0)])
    (fun i=>nlM 1 5 (bys (d.take i)) [(0,⟨.own 23,bys d⟩)] i) (fun i=>nlN 1 i) (fun i=>i≤16) (fun i=>16 - i) 0 ?_ (Nat.zero_le _) ?_
  · exact ⟨[(0,0)],by simp [EntM,compat,apartM,keysBelow,eta,idHs,rd,Option.getD_some,List.length_cons,List.length_nil,Nat.zero_add,Nat.add_zero,↓reduceIte,Kind.isOwn,List.take_zero,and_self,true_and,exists_eq_left',Option.some.injEq,ne_eq,implies_true,List.not_mem_nil,Bool.true_or,forall_const,ren_bytes,nlM_0,nlN_0],by simp [frEnt,geto,eta,SV.ren,Option.getD_some,List.length_cons,List.length_nil,Nat.zero_add,Nat.add_zero,Nat.reduceEqDiff,↓reduceIte,and_self,Nat.succ_ne_self,nlS_0]⟩
  · intro i hi
    by_cases h:i < 16
    · have c1:(i:Int) < 16:=by omega
      have c2:(0:Int)≤(i:Int):=by omega
      have wi:IntKind.i64.wrap ((i:Int)+1)=((i+1:Nat):Int):=by rw [wrap64_eq (by omega) (by omega)];omega
      obtain ⟨x,hx⟩:∃ x,d[i]?=some x:=⟨_,List.getElem?_eq_getElem (by omega)⟩
      have gx:=get_bysI hx
      have ht:bys (d.take i)++[SV.byte x]=bys (d.take (i+1)):=by
        rw [bytes_app1,List.take_add_one,hx];rfl
      have hlt:(bys (d.take i)).length=i:=by rw [len_bytes];simp;omega
      cases i with
      | zero=>
        simp (config:={ maxSteps:=1000000 }) only [gx,again_n,Nat.reduceEqDiff,Nat.reduceAdd,Int.reduceToNat,Int.reduceLT,Int.reduceLE,Int.reduceAdd,Int.reduceNeg,wrap64,eq_self,decide_true,Int.cast_ofNat_Int, true_and,List.length_cons,List.length_nil,List.append_nil,List.nil_append,List.take_succ_cons,List.take_zero,List.drop_succ_cons,List.drop_zero,List.take_nil,List.drop_nil,Nat.zero_add,Nat.add_zero,den_nil,den_o0,↓gd_tt,den_o1,kont_app,den_skip,den_reg,den_seq,den_cond,den_block,den_b,↓reduceIte,↓e_bslice,↓e_load,↓e_app,↓e_mv,↓e_idxA,↓e_bin,↓u_onInt,↓u_binV,↓u_srcOf,↓u_srcSl,↓binI,↓fillE,Opd.ev,Sx.get,put,putO,del,dels,rd,splice,SV.cells?,SV.one,Nat.sub_zero,Nat.le_refl,nlS_0,nlM_0,nlN_0,Nat.mul_one,Int.cast_ofNat_Int]
        rw [byte_I]
        have ht:bys (d.take (0+1))=bys [x]:=by rw [← ht];rfl
        exact ⟨by omega,by omega,0+1,⟨[(0,0),(2,0)],by simp only [ht,EntM,compat,apartM,keysBelow,eta,idHs,rd,Option.getD_some,List.getElem?_cons_zero,List.getElem?_cons_succ,List.length_cons,List.length_nil,Nat.zero_add,Nat.add_zero,Nat.reduceAdd,Nat.reduceSub,Nat.reduceLT,Nat.reduceLeDiff,↓reduceIte,Kind.isOwn,List.take_zero,and_self,true_and,exists_eq_left',Option.some.injEq,ne_eq,not_false_eq_true,implies_true,List.not_mem_nil,false_imp_iff,Bool.true_or,forall_const,reduceCtorEq,List.mem_cons,or_false,forall_eq,Nat.succ_ne_self,one_byte,ren_bytes,nlM_1,nlN_1],by simp only [frEnt,geto,eta,SV.ren,Option.getD_some,List.getElem?_cons_zero,List.getElem?_cons_succ,List.length_cons,List.length_nil,Nat.zero_add,Nat.add_zero,Nat.reduceAdd,Nat.reduceSub,Nat.reduceEqDiff,↓reduceIte,and_self,and_true,Option.some.injEq,Nat.succ_ne_self,nlS_1];trivial⟩,by omega,by omega⟩
      | succ i=>
        simp (config:={ maxSteps:=1000000 }) only [c1,c2,wi,gx,again_n,reduceCtorEq,Nat.reduceEqDiff,Nat.reduceAdd,eq_self,decide_true,Int.cast_ofNat_Int, true_and,List.length_cons,List.length_nil,List.append_nil,List.nil_append,List.take_succ_cons,List.take_zero,List.drop_succ_cons,List.drop_zero,List.take_nil,List.drop_nil,Nat.zero_add,den_nil,den_o0,↓gd_tt,den_o1,kont_app,den_skip,den_reg,den_seq,den_cond,den_block,den_b,↓reduceIte,↓e_bslice,↓e_load,↓e_app,↓e_mv,↓e_idxA,↓e_bin,↓u_onInt,↓u_binV,↓u_srcOf,↓u_srcSl,↓binI,↓fillE,Opd.ev,Sx.get,put,putO,del,dels,rd,rm,splice,SV.cells?,SV.one,Nat.le_refl,nlS_1,nlM_1,nlN_1,len_bytes,Int.toNat_natCast,Nat.mul_one,Int.cast_ofNat_Int]
        rw [byte_I]
        have e0:List.take (i+1) (bys (List.take (i+1) d))=bys (List.take (i+1) d):=List.take_of_length_le (by omega)
        rw [e0,ht]
        exact ⟨by omega,by omega,by rw [len_bytes] at hlt;omega,i+1+1,⟨[(0,0),(3,0)],by simp only [EntM,compat,apartM,keysBelow,eta,idHs,rd,Option.getD_some,List.getElem?_cons_zero,List.getElem?_cons_succ,List.length_cons,List.length_nil,Nat.zero_add,Nat.add_zero,Nat.reduceAdd,Nat.reduceSub,Nat.reduceLT,Nat.reduceLeDiff,↓reduceIte,Kind.isOwn,List.take_zero,and_self,true_and,exists_eq_left',Option.some.injEq,ne_eq,not_false_eq_true,implies_true,List.not_mem_nil,false_imp_iff,Bool.true_or,forall_const,reduceCtorEq,List.mem_cons,or_false,forall_eq,one_byte,ren_bytes,nlM_1,nlN_1],by simp only [frEnt,geto,eta,SV.ren,Option.getD_some,List.getElem?_cons_zero,List.getElem?_cons_succ,List.length_cons,List.length_nil,Nat.zero_add,Nat.add_zero,Nat.reduceAdd,Nat.reduceSub,Nat.reduceEqDiff,↓reduceIte,and_self,Nat.succ_ne_self,nlS_1]⟩,by omega,by omega⟩
    · obtain rfl:i=16:=by omega
      simp (config:={ maxSteps:=1000000 }) only [again_x,Nat.reduceEqDiff,Nat.reduceAdd,Int.reduceLT,eq_self,decide_false,Int.cast_ofNat_Int, true_and,List.drop_zero,Nat.zero_add,den_nil,den_o0,↓gd_ft,den_o1,kont_app,den_reg,den_seq,den_cond,den_exit,den_ret,den_xb,den_xc,finE_r,↓reduceIte,↓e_b2s,↓e_mv,↓e_bin,↓u_binV,↓u_srcSl,↓binI,↓evRes,Opd.ev,Sx.get,put,putO,del,dels,rd,retOf,SV.ren,nlS_1,nlM_1,nlN_1,len_bytes,Nat.mul_one,Int.cast_ofNat_Int]
      have e:List.take 16 d=d:=List.take_of_length_le (by omega)
      have e1:List.take 16 (bys d)=bys d:=List.take_of_length_le (by rw [len_bytes];omega)
      rw [e,e1,map_byteOf]
      exact ⟨by omega,all_isU8 _,[],by simp [EntM,compat,apartM,keysBelow,idHs,List.length_nil,List.take_nil,and_self],rfl⟩
def gText:GS
  | [.agg cells],[]=>match unB cells with
    | some d=>if d.length=16 then some (.str d,[],0) else none
    | none=>none
  | _,_=>none
theorem gText_ok:FunS Tryz.prog tS 49 gText:=by
  intro a0 m0 r m1 n1 h
  unfold gText at h
  split at h
  · split at h
    · rename_i d hd
      split at h
      · cases h
        rw [unB_some hd]
        exact ⟨f37 d (by assumption),by simp [freshB]⟩
      · cases h
    · cases h
  · cases h
end Go.Proofs.YtkfbkooobfepeaaGreatDoor

/- The joining of slices. -/
namespace Go.Proofs.YtkfbkooobfepeaaGreatDoor
open Go Go.Sx Sf
set_option maxRecDepth 100000
set_option linter.unusedVariables false
variable {tS:List (Nat × List SV)}
theorem f51 (k:Nat) (h0:0 < k) (h1:k≤2 ^ 38):Fun Tryz.prog tS 47 [.val (.slice none 0 0),.int .i64 (k:Int)] [] 0 (.slc 0 0 1 0 none) [(0,⟨.own 5,bys (List.replicate k 0)⟩)] 1:=by
  refine fun_any none cF cF_ok chk51 (show 2≤27 by decide) (by decide) ?_
  unfold sf51 om oq
  have c1:¬ (k:Int) < 0:=by omega
  have c2:(k:Int) > 0:=by omega
  have w1:IntKind.i64.wrap (k:Int)=(k:Int):=wrap64_eq (by omega) (by omega)
  have c3:(0:Int) < (k:Int):=by omega
  simp (config:={ maxSteps:=1000000 }) only [c1,c2,w1,Int.sub_zero,reduceCtorEq,Nat.reduceEqDiff,Int.reduceToNat,Int.reduceLE,Int.reduceNeg,↓reduceIte,BC,↓PC]
  have e:bys (List.replicate k 0)=rep k [.int .u8 0]:=by
    rw [rep_one];simp only [bys,List.map_replicate];rfl
  rw [e]
  refine ⟨by omega,by omega,by simp [rep_one],by omega,[(0,0)],?_,?_⟩
  · rw [← e];simp [↓reduceIte,BC]
  · rfl
def gGrow:GS
  | [.val (.slice none 0 0),.int .i64 (.ofNat k)],[]=>if 0 < k then if k≤2 ^ 38 then some (.slc 0 0 1 0 none,[(0,⟨.own 5,bys (List.replicate k 0)⟩)],1) else none else none
  | _,_=>none
theorem gGrow_eq {k:Nat}:gGrow [.val (.slice none 0 0),.int .i64 (k:Int)] []=if 0 < k then if k≤2 ^ 38 then some (.slc 0 0 1 0 none,[(0,⟨.own 5,bys (List.replicate k 0)⟩)],1) else none else none:=(rfl)
theorem gGrow_ok:FunS Tryz.prog tS 47 gGrow:=by
  intro a0 m0 r m1 n1 h
  unfold gGrow at h
  split at h
  · split at h
    · split at h
      · cases h;exact ⟨f51 _ (by assumption) (by assumption),by simp [freshB]⟩
      · cases h
    · cases h
  · cases h
theorem tk_app {n:Nat} {a b:List UInt8} (h:n=a.length+b.length):List.take n (bys a++bys b)=bys (a++b):=by
  rw [bytes_app];exact List.take_of_length_le (by rw [len_bytes];simp;omega)
def tabC:List (FuncId × GS):=[(47,gGrow)]
theorem tabC_ok:∀ x ∈ tabC,FunS Tryz.prog tS x.1 x.2:=by
  intro x hx
  simp only [tabC,List.mem_cons,List.not_mem_nil,or_false] at hx
  rcases hx with rfl
  exact gGrow_ok
set_option maxHeartbeats 4000000 in
theorem f32_3 (p1 p2 p3:List UInt8) (c:Option Nat) (c1 c2 c3:Option Nat) (h0:0 < (p1++p2++p3).length) (hT:(p1++p2++p3).length≤2 ^ 38) :
    Fun Tryz.prog tS 22 [.slc 0 0 1 3 c] [(0,⟨.view,[.slc 1 0 1 p1.length c1,.slc 2 0 1 p2.length c2,.slc 3 0 1 p3.length c3]⟩),(1,⟨.view,bys p1⟩),(2,⟨.view,bys p2⟩),(3,⟨.view,bys p3⟩)] 4 (.slc 4 0 1 (p1++p2++p3).length none) [(4,⟨.own 5,bys (p1++p2++p3)⟩)] 5:=by
  refine fun_any none (callS tabC cF) (callS_ok tabC_ok cF_ok) chk32 (show 1≤36 by decide) (by decide) ?_
  unfold sf32 om oq
  have hT2:(p1++p2++p3).length=p1.length+p2.length+p3.length:=by simp [Nat.add_assoc]
  generalize hn:(p1++p2++p3).length=T at *
  have w1:IntKind.i64.wrap ((p1.length:Nat):Int)=((p1.length:Nat):Int):=wrap64_eq (by omega) (by omega)
  have v1:¬ ((p1.length:Nat):Int) < 0:=by omega
  have w2:IntKind.i64.wrap (((p1.length:Nat):Int)+((p2.length:Nat):Int))=((p1.length+p2.length:Nat):Int):=by rw [wrap64_eq (by omega) (by omega)];omega
  have v2:¬ ((p1.length+p2.length:Nat):Int) < 0:=by omega
  have w3:IntKind.i64.wrap (((p1.length+p2.length:Nat):Int)+((p3.length:Nat):Int))=((p1.length+p2.length+p3.length:Nat):Int):=by rw [wrap64_eq (by omega) (by omega)];omega
  have v3:¬ ((p1.length+p2.length+p3.length:Nat):Int) < 0:=by omega
  have u0:0 < p1.length+p2.length+p3.length:=by omega
  have u1:p1.length+p2.length+p3.length≤2 ^ 38:=by omega
  simp (config:={ maxSteps:=1000000 }) only [tabC,reduceCtorEq,Nat.reduceEqDiff,↓reduceIte,BC,↓PC]
  rw [den_loop]
  refine den_unroll (callS_ok tabC_ok cF_ok) (callT_point _ _) 4 ?_
  simp (config:={ maxSteps:=1000000 }) only [↓gGrow_eq,Int.zero_add,u0,u1,w1,v1,w2,v2,w3,v3,reduceCtorEq,Nat.reduceEqDiff,Nat.reduceAdd,Nat.reduceLT,Int.reduceToNat,Int.reduceLT,Int.reduceLE,Int.reduceAdd,Int.reduceNeg,↓reduceIte,BC,↓PC]
  rw [den_loop]
  refine den_unroll (callS_ok tabC_ok cF_ok) (callT_point _ _) 4 ?_
  simp (config:={ maxSteps:=1000000 }) only [Int.zero_add,reduceCtorEq,Nat.reduceEqDiff,Nat.reduceAdd,Nat.reduceLT,Int.reduceToNat,Int.reduceLT,Int.reduceLE,Int.reduceAdd,Int.reduceNeg,↓reduceIte,BC,↓PC]

  have hb:bys (p1)=bys p1:=rfl
  rw [tk_app (a:=p1) (b:=p2) (by simp;try omega)]
  simp only [bytes_app]
  have hs:∀ x:Nat,x≤x:=Nat.le_refl
  refine ⟨?_,?_,?_,?_,?_,?_,?_,?_,[(0,0),(1,0),(2,0),(3,0),(7,0)],by simp [Nat.reduceAdd,Nat.reduceLeDiff,↓reduceIte,BC],by simp [hT2,Nat.reduceAdd,Nat.reduceLeDiff,BB]⟩ <;> first | omega | (simp only [List.length_append,len_bytes];omega)
set_option maxHeartbeats 4000000 in
theorem f32_4 (p1 p2 p3 p4:List UInt8) (c:Option Nat) (c1 c2 c3 c4:Option Nat) (h0:0 < (p1++p2++p3++p4).length) (hT:(p1++p2++p3++p4).length≤2 ^ 38) :
    Fun Tryz.prog tS 22 [.slc 0 0 1 4 c] [(0,⟨.view,[.slc 1 0 1 p1.length c1,.slc 2 0 1 p2.length c2,.slc 3 0 1 p3.length c3,.slc 4 0 1 p4.length c4]⟩),(1,⟨.view,bys p1⟩),(2,⟨.view,bys p2⟩),(3,⟨.view,bys p3⟩),(4,⟨.view,bys p4⟩)] 5 (.slc 5 0 1 (p1++p2++p3++p4).length none) [(5,⟨.own 5,bys (p1++p2++p3++p4)⟩)] 6:=by
  refine fun_any none (callS tabC cF) (callS_ok tabC_ok cF_ok) chk32 (show 1≤36 by decide) (by decide) ?_
  unfold sf32 om oq
  have hT2:(p1++p2++p3++p4).length=p1.length+p2.length+p3.length+p4.length:=by simp [Nat.add_assoc]
  generalize hn:(p1++p2++p3++p4).length=T at *
  have w1:IntKind.i64.wrap ((p1.length:Nat):Int)=((p1.length:Nat):Int):=wrap64_eq (by omega) (by omega)
  have v1:¬ ((p1.length:Nat):Int) < 0:=by omega
  have w2:IntKind.i64.wrap (((p1.length:Nat):Int)+((p2.length:Nat):Int))=((p1.length+p2.length:Nat):Int):=by rw [wrap64_eq (by omega) (by omega)];omega
  have v2:¬ ((p1.length+p2.length:Nat):Int) < 0:=by omega
  have w3:IntKind.i64.wrap (((p1.length+p2.length:Nat):Int)+((p3.length:Nat):Int))=((p1.length+p2.length+p3.length:Nat):Int):=by rw [wrap64_eq (by omega) (by omega)];omega
  have v3:¬ ((p1.length+p2.length+p3.length:Nat):Int) < 0:=by omega
  have w4:IntKind.i64.wrap (((p1.length+p2.length+p3.length:Nat):Int)+((p4.length:Nat):Int))=((p1.length+p2.length+p3.length+p4.length:Nat):Int):=by rw [wrap64_eq (by omega) (by omega)];omega
  have v4:¬ ((p1.length+p2.length+p3.length+p4.length:Nat):Int) < 0:=by omega
  have u0:0 < p1.length+p2.length+p3.length+p4.length:=by omega
  have u1:p1.length+p2.length+p3.length+p4.length≤2 ^ 38:=by omega
  simp (config:={ maxSteps:=1000000 }) only [tabC,reduceCtorEq,Nat.reduceEqDiff,↓reduceIte,BC,↓PC]
  rw [den_loop]
  refine den_unroll (callS_ok tabC_ok cF_ok) (callT_point _ _) 5 ?_
  simp (config:={ maxSteps:=1000000 }) only [↓gGrow_eq,Int.zero_add,u0,u1,w1,v1,w2,v2,w3,v3,w4,v4,reduceCtorEq,Nat.reduceEqDiff,Nat.reduceAdd,Nat.reduceLT,Int.reduceToNat,Int.reduceLT,Int.reduceLE,Int.reduceAdd,Int.reduceNeg,↓reduceIte,BC,↓PC]
  rw [den_loop]
  refine den_unroll (callS_ok tabC_ok cF_ok) (callT_point _ _) 5 ?_
  simp (config:={ maxSteps:=1000000 }) only [Int.zero_add,reduceCtorEq,Nat.reduceEqDiff,Nat.reduceAdd,Nat.reduceLT,Int.reduceToNat,Int.reduceLT,Int.reduceLE,Int.reduceAdd,Int.reduceNeg,↓reduceIte,BC,↓PC]

  have hb:bys (p1)=bys p1:=rfl
  rw [tk_app (a:=p1) (b:=p2) (by simp;try omega),tk_app (a:=p1++p2) (b:=p3) (by simp;try omega)]
  simp only [bytes_app]
  have hs:∀ x:Nat,x≤x:=Nat.le_refl
  refine ⟨?_,?_,?_,?_,?_,?_,?_,?_,?_,?_,?_,[(0,0),(1,0),(2,0),(3,0),(4,0),(9,0)],by simp [Nat.reduceAdd,Nat.reduceLeDiff,↓reduceIte,BC],by simp [hT2,Nat.reduceAdd,Nat.reduceLeDiff,BB]⟩ <;> first | omega | (simp only [List.length_append,len_bytes];omega)
def gCat:GS
  | [.slc 0 0 1 3 c],[(0,⟨.view,[.slc 1 0 1 l1 c1,.slc 2 0 1 l2 c2,.slc 3 0 1 l3 c3]⟩),(1,⟨.view,b1⟩),(2,⟨.view,b2⟩),(3,⟨.view,b3⟩)]=>match unB b1,unB b2,unB b3 with
    | some p1,some p2,some p3=>if l1=p1.length∧l2=p2.length∧l3=p3.length∧0 < (p1++p2++p3).length∧(p1++p2++p3).length≤2 ^ 38 then some (.slc 4 0 1 (p1++p2++p3).length none,[(4,⟨.own 5,bys (p1++p2++p3)⟩)],5) else none
    | _,_,_=>none
  | [.slc 0 0 1 4 c],[(0,⟨.view,[.slc 1 0 1 l1 c1,.slc 2 0 1 l2 c2,.slc 3 0 1 l3 c3,.slc 4 0 1 l4 c4]⟩),(1,⟨.view,b1⟩),(2,⟨.view,b2⟩),(3,⟨.view,b3⟩),(4,⟨.view,b4⟩)]=>match unB b1,unB b2,unB b3,unB b4 with
    | some p1,some p2,some p3,some p4=>if l1=p1.length∧l2=p2.length∧l3=p3.length∧l4=p4.length∧0 < (p1++p2++p3++p4).length∧(p1++p2++p3++p4).length≤2 ^ 38 then some (.slc 5 0 1 (p1++p2++p3++p4).length none,[(5,⟨.own 5,bys (p1++p2++p3++p4)⟩)],6) else none
    | _,_,_,_=>none
  | _,_=>none
theorem gCat_ok:FunS Tryz.prog tS 22 gCat:=by
  intro a0 m0 r m1 n1 h
  unfold gCat at h
  split at h
  · split at h
    · rename_i h1 h2 h3
      split at h
      · rename_i hc
        cases h
        obtain ⟨rfl,rfl,rfl,k1,k2⟩:=hc
        rw [unB_some h1,unB_some h2,unB_some h3]
        exact ⟨f32_3 _ _ _ _ _ _ _ k1 k2,by simp [freshB]⟩
      · cases h
    · cases h
  · split at h
    · rename_i h1 h2 h3 h4
      split at h
      · rename_i hc
        cases h
        obtain ⟨rfl,rfl,rfl,rfl,k1,k2⟩:=hc
        rw [unB_some h1,unB_some h2,unB_some h3,unB_some h4]
        exact ⟨f32_4 _ _ _ _ _ _ _ _ _ k1 k2,by simp [freshB]⟩
      · cases h
    · cases h
  · cases h
end Go.Proofs.YtkfbkooobfepeaaGreatDoor

/- The statements of custodians: what they are. -/
namespace Go.Proofs.YtkfbkooobfepeaaGreatDoor
open Go Go.Sx Sf
set_option maxRecDepth 100000
set_option linter.unusedVariables false
variable {tS:List (Nat × List SV)}
def tabD:List (FuncId × GS):=[(21,gInts),(22,gCat)]
theorem tabD_ok:∀ x ∈ tabD,FunS Tryz.prog tS x.1 x.2:=by
  intro x hx
  simp only [tabD,List.mem_cons,List.not_mem_nil,or_false] at hx
  rcases hx with rfl | rfl
  · exact gInts_ok
  · exact gCat_ok
def custody:List UInt8:=[99,117,115,116,111,100,121]
def stmt (d:List UInt8) (e r v:Int) (c:List UInt8):List UInt8:=custody++encIs [v,e,r]++d++c
theorem encIs3 (x y z:Int):(encIs [x,y,z]).length≤36:=by
  have:=encI_len x
  have:=encI_len y
  have:=encI_len z
  have:=encI_len (([x,y,z]:List Int).length:Int)
  simp only [encIs,encL,List.length_append,List.length_nil];omega
theorem custody_cons (x:List UInt8):SV.int .u8 99 :: SV.int .u8 117 :: SV.int .u8 115 :: SV.int .u8 116 :: SV.int .u8 111 :: SV.int .u8 100 :: SV.int .u8 121 :: bys x=bys (custody++x):=(rfl)
theorem f24 (d:List UInt8) (e r v:Int) (c:List UInt8) (hd:d.length=16) (hc:c.length=16) :
    Fun Tryz.prog tS 6 [.agg (bys d),.int .i64 e,.int .i64 r,.int .i64 v,.agg (bys c)] [] 0 (.str (stmt d e r v c)) [] 0:=by
  refine fun_any none (callS tabD cF) (callS_ok tabD_ok cF_ok) chk24 (show 5≤26 by decide) (by decide) ?_
  unfold sf24 oh om oq
  have h3:[SV.int .i64 v,SV.int .i64 e,SV.int .i64 r]=ints [v,e,r]:=rfl
  have hl:=encIs3 v e r
  have hu:=unI_ints [v,e,r]
  have l3:([v,e,r]:List Int).length=3:=rfl
  have c7:(custody:List UInt8).length=7:=rfl
  have k0:0 < (custody++encIs [v,e,r]++d++c).length:=by simp only [List.length_append];omega
  have k1:(custody++encIs [v,e,r]++d++c).length≤2 ^ 38:=by simp only [List.length_append];omega
  have h7:7+(encIs [v,e,r]).length=(custody++encIs [v,e,r]).length:=by rw [List.length_append,c7]
  have td:List.take 16 (bys d)=bys d:=List.take_of_length_le (by rw [len_bytes];omega)
  have tc:List.take 16 (bys c)=bys c:=List.take_of_length_le (by rw [len_bytes];omega)
  have h8:(custody++encIs [v,e,r]).length≤2 ^ 40:=by rw [← h7];omega
  simp (config:={ maxSteps:=1000000 }) only [tabD,gInts,gCat,unI,h7,h8,td,tc,hd,hc,custody_cons,unB_bytes,k0,k1,reduceCtorEq,Nat.reduceEqDiff,Nat.reduceAdd,Nat.reduceSub,Nat.reduceLeDiff,Nat.reduceLT,Int.reduceToNat,Int.reduceLE,↓reduceIte,evA,upd,splice,BC,↓PC]
  exact ⟨by decide,all_isU8 _,[],by simp [BC],by rw [map_byteOf];rfl⟩
def gStmt:GS
  | [.agg cd,.int .i64 e,.int .i64 r,.int .i64 v,.agg cc],[]=>match unB cd,unB cc with
    | some d,some c=>if d.length=16 then if c.length=16 then some (.str (stmt d e r v c),[],0) else none else none
    | _,_=>none
  | _,_=>none
theorem gStmt_ok:FunS Tryz.prog tS 6 gStmt:=by
  intro a0 m0 r m1 n1 h
  unfold gStmt at h
  split at h
  · split at h
    · rename_i d c hd hc
      split at h
      · split at h
        · cases h
          rw [unB_some hd,unB_some hc]
          exact ⟨f24 d _ _ _ c (by assumption) (by assumption),by simp [freshB]⟩
        · cases h
      · cases h
    · cases h
  · cases h

end Go.Proofs.YtkfbkooobfepeaaGreatDoor

/- The plain law of the encodings of integers: the program's and the reference's are the same. -/
namespace Go.Proofs.YtkfbkooobfepeaaGreatDoor
open Go Go.Sx Sf
set_option maxRecDepth 100000
set_option linter.unusedSimpArgs false
set_option linter.unusedVariables false
def byN (m j:Nat):Nat:=m / 256 ^ j % 256
def magN (n:Int):Nat:=if n < 0 then (-1 - n).toNat else n.toNat
theorem magN_lt {n:Int} (h:R64 n):magN n < 9223372036854775808:=by
  unfold magN R64 at *
  split <;> omega
theorem magR_eq {n:Int} (h:R64 n):magR n=(magN n:Int):=by
  unfold magR magN R64 at *
  split
  · rw [wrap64_eq (by omega) (by omega)];omega
  · omega
theorem wrapU64 (x:Int):IntKind.u64.wrap x=x % 18446744073709551616:=by
  simp [IntKind.wrap,IntKind.bits,IntKind.signed]
theorem wrapU8' (x:Int):IntKind.u8.wrap x=x % 256:=by
  simp [IntKind.wrap,IntKind.bits,IntKind.signed]
theorem xor_max64 (x:Int):bitop .xor .u64 (if IntKind.u64.signed then -1 else IntKind.u64.max) x=18446744073709551615 - x % 18446744073709551616:=by
  have hm:(if IntKind.u64.signed then (-1:Int) else IntKind.u64.max)=18446744073709551615:=by decide
  rw [hm]
  unfold bitop
  simp only
  have e1:BitVec.ofInt IntKind.u64.bits 18446744073709551615=BitVec.allOnes 64:=show BitVec.ofInt 64 18446744073709551615=BitVec.allOnes 64 by decide
  have e2:(BitVec.allOnes 64 ^^^ BitVec.ofInt 64 x) = ~~~ (BitVec.ofInt 64 x):=by
    rw [BitVec.allOnes_xor]
  rw [e1]
  show IntKind.u64.wrap ((BitVec.allOnes 64 ^^^ BitVec.ofInt 64 x).toNat:Int)=_
  rw [e2,BitVec.toNat_not,wrapU64,BitVec.toNat_ofInt]
  omega
theorem encM_eq {n:Int} (h:R64 n):encM n=(magN n:Int):=by
  unfold encM magN R64 at *
  split
  · rw [xor_max64,wrapU64];omega
  · rw [wrapU64];omega
theorem xor8_0 (x:Int) (h:0≤x∧x < 256):bitop .xor .u8 x 0=x:=by
  unfold bitop
  simp only
  show IntKind.u8.wrap ((BitVec.ofInt 8 x ^^^ BitVec.ofInt 8 0).toNat:Int)=x
  have e:(BitVec.ofInt 8 x ^^^ BitVec.ofInt 8 0)=BitVec.ofInt 8 x:=by
    have:BitVec.ofInt 8 0=0#8:=by decide
    rw [this,BitVec.xor_zero]
  rw [e,wrapU8',BitVec.toNat_ofInt]
  omega
theorem xor8_255 (x:Int) (h:0≤x∧x < 256):bitop .xor .u8 x 255=255 - x:=by
  unfold bitop
  simp only
  show IntKind.u8.wrap ((BitVec.ofInt 8 x ^^^ BitVec.ofInt 8 255).toNat:Int)=_
  have e:(BitVec.ofInt 8 x ^^^ BitVec.ofInt 8 255) = ~~~ BitVec.ofInt 8 x:=by
    have:BitVec.ofInt 8 255=BitVec.allOnes 8:=by decide
    rw [this,BitVec.xor_comm,BitVec.allOnes_xor]
  rw [e,wrapU8',BitVec.toNat_not,BitVec.toNat_ofInt]
  omega
theorem nth8_eq {m j:Nat} (hj:j < 8):nth8 (m:Int) j=((m / 256 ^ j:Nat):Int):=by
  unfold nth8
  have h1:min (8 * j) IntKind.u64.bits=8 * j:=Nat.min_eq_left (by show 8 * j≤64;omega)
  rw [h1]
  have h2:((2:Int) ^ (8 * j))=((256 ^ j:Nat):Int):=by
    rw [Int.pow_mul];simp
  rw [h2]
  exact (Int.ofNat_fdiv _ _).symm
theorem wrap_nth8 {m j:Nat} (hj:j < 8):IntKind.u8.wrap (nth8 (m:Int) j)=(byN m j:Int):=by
  rw [nth8_eq hj,wrapU8'];unfold byN;omega
theorem byN_lt (m j:Nat):byN m j < 256:=Nat.mod_lt _ (by decide)
theorem byN_succ (m j:Nat):byN m (j+1)=byN (m / 256) j:=by
  unfold byN;rw [Nat.pow_succ,Nat.mul_comm,Nat.div_div_eq_div_mul]
theorem nxtR_eq {m:Nat} (h:m < 9223372036854775808):nxtR (m:Int)=((m / 256:Nat):Int):=by
  unfold nxtR
  rw [Int.tdiv_eq_ediv_of_nonneg (by omega),wrap64_eq (by omega) (by omega)];omega
theorem dig_eq:∀ (m:Nat),m < 9223372036854775808→dig (m:Int)=(List.range (dig (m:Int)).length).map fun j=>UInt8.ofNat (byN m j)
  | 0,_=>by rw [dig_neg (by omega)];rfl
  | m+1,h=>by
    have hp:((m+1:Nat):Int) > 0:=by omega
    have ih:=dig_eq ((m+1) / 256) (by omega)
    rw [dig_pos hp,nxtR_eq h]
    simp only [List.length_cons,List.range_succ_eq_map,List.map_cons,List.map_map]
    congr 1
    · unfold wrapB byN
      rw [wrapU8',Int.tmod_eq_emod_of_nonneg (by omega)]
      congr 1
      simp only [Nat.pow_zero,Nat.div_one]
      omega
    · conv=>lhs;rw [ih]
      apply List.map_congr_left
      intro j _
      simp only [Function.comp,byN_succ]
termination_by m=>m
decreasing_by omega
theorem dig_len_le:∀ (k m:Nat),m < 9223372036854775808→m < 256 ^ k→(dig (m:Int)).length≤k:=fun k m h h'=>dig_len k _ (by exact_mod_cast h')
theorem dig_len_gt:∀ (k m:Nat),m < 9223372036854775808→256 ^ k≤m→k < (dig (m:Int)).length
  | 0,m,h,h'=>by
    rw [dig_pos (by simp at h';omega)];simp
  | k+1,m,h,h'=>by
    have hk:0 < 256 ^ (k+1):=Nat.pow_pos (by decide)
    rw [dig_pos (by omega),nxtR_eq h]
    have:=dig_len_gt k (m / 256) (by omega) (by rw [Nat.le_div_iff_mul_le (by decide)];rw [Nat.pow_succ] at h';exact h')
    simp only [List.length_cons];omega
theorem topK_eq {m:Nat} (h:m < 9223372036854775808):∀ k,k≤8→m < 256 ^ k→topK (m:Int) k=(dig (m:Int)).length
  | 0,_,h'=>by
    have:m=0:=by simpa using h'
    subst this
    rw [dig_neg (by omega)];rfl
  | k+1,hk,h'=>by
    unfold topK
    rw [nth8_eq (by omega)]
    have hpos:0 < 256 ^ k:=Nat.pow_pos (by decide)
    by_cases hc:256 ^ k≤m
    · have h1:0 < m / 256 ^ k:=Nat.div_pos hc hpos
      rw [if_pos (by exact_mod_cast h1)]
      have:=dig_len_le (k+1) m h h'
      have:=dig_len_gt k m h hc
      omega
    · have h1:m / 256 ^ k=0:=Nat.div_eq_of_lt (by omega)
      rw [h1,if_neg (by decide)]
      exact topK_eq h k (by omega) (by omega)
theorem encTail_eq (m f:Int):∀ i,encTail m f i=(List.range i).reverse.map fun j=>flipB (IntKind.u8.wrap (nth8 m j)) f
  | 0=>rfl
  | i+1=>by
    rw [List.range_succ,List.reverse_append]
    simp only [encTail,BB]
    rw [encTail_eq m f i]
theorem enc_same {n:Int} (h:R64 n):encI n=encR n:=by
  have hm:=magN_lt h
  have h8:magN n < 256 ^ 8:=Nat.lt_trans hm (by decide)
  unfold encI encR hdR
  rw [encM_eq h,magR_eq h,topK_eq hm 8 (Nat.le_refl _) h8]
  have hl:(dig (magN n:Int)).length≤8:=dig_len_le 8 _ hm h8
  generalize hK:(dig (magN n:Int)).length=K at *
  have hd:=dig_eq _ hm
  rw [hK] at hd
  congr 1
  · unfold encHd encF flipB wrapB
    by_cases hn:n < 0
    · rw [if_pos hn,if_neg (by omega),xor8_255 _ (wrapU8_rng _),wrapU8',wrapU8',wrap64_eq (by omega) (by omega)]
      congr 1;omega
    · rw [if_neg hn,if_pos (by omega),xor8_0 _ (wrapU8_rng _),wrapU8',wrapU8',wrap64_eq (by omega) (by omega)]
  · rw [encTail_eq,hd,← List.map_reverse,List.map_map]
    apply List.map_congr_left
    intro j hj
    have hj8:j < 8:=by simp at hj;omega
    simp only [Function.comp]
    rw [wrap_nth8 hj8]
    have hb:=byN_lt (magN n) j
    unfold encF turnR flipB wrapB
    by_cases hn:n < 0
    · rw [if_pos hn,if_pos hn,xor8_255 _ (by omega),wrapU8']
      congr 1
      simp only [UInt8.toNat_ofNat']
      omega
    · rw [if_neg hn,if_neg hn,xor8_0 _ (by omega)]
      congr 1
end Go.Proofs.YtkfbkooobfepeaaGreatDoor

/- The plain law of the encodings of integers: nothing is the encoding of two, nor the beginning of another. -/
namespace Go.Proofs.YtkfbkooobfepeaaGreatDoor
open Go Go.Sx Sf
set_option maxRecDepth 100000
set_option linter.unusedSimpArgs false
set_option linter.unusedVariables false
theorem hd_val {n:Int} {K:Nat} (hK:K≤8):encHd (encF n) K=UInt8.ofNat (if n < 0 then 127 - K else 128+K):=by
  unfold encHd encF flipB
  by_cases hn:n < 0
  · rw [if_pos hn,if_pos hn,xor8_255 _ (wrapU8_rng _),wrapU8']
    congr 1;omega
  · rw [if_neg hn,if_neg hn,xor8_0 _ (wrapU8_rng _),wrapU8']
    congr 1;omega
theorem byN_inj:∀ (K m m':Nat),m < 256 ^ K→m' < 256 ^ K→(∀ j,j < K→byN m j=byN m' j)→m=m'
  | 0,m,m',h,h',_=>by simp at h h';omega
  | K+1,m,m',h,h',hb=>by
    have h0:=hb 0 (by omega)
    simp only [byN,Nat.pow_zero,Nat.div_one] at h0
    rw [Nat.pow_succ] at h h'
    have ih:=byN_inj K (m / 256) (m' / 256) (by omega) (by omega) (fun j hj=>by
      have:=hb (j+1) (by omega)
      rwa [byN_succ,byN_succ] at this)
    omega
theorem encI_form' {n:Int} (h:R64 n):∃ K,K≤8∧magN n < 256 ^ K∧(K=0∨256 ^ (K - 1)≤magN n)∧encI n=UInt8.ofNat (if n < 0 then 127 - K else 128+K) :: (List.range K).reverse.map fun j=>UInt8.ofNat (if n < 0 then 255 - byN (magN n) j else byN (magN n) j):=by
  have hm:=magN_lt h
  have h8:magN n < 256 ^ 8:=Nat.lt_trans hm (by decide)
  refine ⟨(dig (magN n:Int)).length,dig_len_le 8 _ hm h8,?_,?_,?_⟩
  · rcases Nat.lt_or_ge (magN n) (256 ^ (dig (magN n:Int)).length) with h1 | h1
    · exact h1
    · have:=dig_len_gt _ _ hm h1;omega
  · rcases Nat.eq_zero_or_pos (dig (magN n:Int)).length with h0 | h0
    · exact .inl h0
    · refine .inr ?_
      rcases Nat.lt_or_ge (magN n) (256 ^ ((dig (magN n:Int)).length - 1)) with h1 | h1
      · have:=dig_len_le _ _ hm h1;omega
      · exact h1
  · unfold encI
    rw [encM_eq h,topK_eq hm 8 (Nat.le_refl _) h8]
    have hl:(dig (magN n:Int)).length≤8:=dig_len_le 8 _ hm h8
    generalize (dig (magN n:Int)).length=K at *
    rw [hd_val hl,encTail_eq]
    congr 1
    apply List.map_congr_left
    intro j hj
    have hj8:j < 8:=by simp at hj;omega
    rw [wrap_nth8 hj8]
    have hb:=byN_lt (magN n) j
    unfold encF flipB
    by_cases hn:n < 0
    · rw [if_pos hn,if_pos hn,xor8_255 _ (by omega)]
      congr 1;omega
    · rw [if_neg hn,if_neg hn,xor8_0 _ (by omega)]
      congr 1
end Go.Proofs.YtkfbkooobfepeaaGreatDoor

/- The reference's digest of parts: the input. -/
namespace Go.Proofs.YtkfbkooobfepeaaGreatDoor
open Go Go.Sx Sf
set_option maxRecDepth 100000
set_option linter.unusedVariables false
variable {tS:List (Nat × List SV)}
theorem encSR_eq {s:List UInt8} (h:s.length≤2 ^ 39):encSR s=encS s:=by
  unfold encSR encS
  rw [enc_same (show R64 (s.length:Int) from ⟨by omega,by omega⟩)]
theorem gBytesR_eq {s:List UInt8} (h:s.length≤2 ^ 39):gBytesR [.str s] []=some (.slc 0 0 1 (encS s).length none,[(0,⟨.own 5,bys (encS s)⟩)],1):=by
  simp [gBytesR,h,encSR_eq h]
theorem tabBR_ok:∀ x ∈ [((28:FuncId),gBytesR)],FunS Tryz.prog tS x.1 x.2:=by
  intro x hx
  simp only [List.mem_cons,List.not_mem_nil,or_false] at hx
  subst hx
  exact gBytesR_ok
def cBR:CallT:=callS [(28,gBytesR)] cF
theorem cBR_ok:∀ f a m n K,cBR f a m n K→callT Tryz.prog tS f a m n K:=callS_ok tabBR_ok cF_ok
set_option maxHeartbeats 4000000 in
theorem f56 (tag:Int) (ps:List (List UInt8)) (h:okT tag ps) (cap:Option Nat) (hcap:CapOk cap ps.length) :
    Fun Tryz.prog tS 67 [.int .i64 tag,.slc 0 0 1 ps.length cap] [(0,⟨.view,strs ps⟩)] 1 (.slc 1 0 1 (ofM tag ps).length none) [(1,⟨.own 5,bys (ofM tag ps)⟩)] 2:=by
  refine fun_any none cBR cBR_ok chk56 (show 2≤24 by decide) (by decide) ?_
  unfold sf56 om oq
  obtain ⟨hp,hT,hk⟩:=h
  have hlT:(ofM tag ps).length=1+((ps.map encS).flatten).length:=by simp [ofM];omega
  have rS:∀ η,SV.renL η (strs ps)=strs ps:=fun η=>ren_strs η ps
  simp (config:={ maxSteps:=1000000 }) only [cBR,reduceCtorEq,Nat.reduceEqDiff,Nat.reduceAdd,eq_self, true_and,List.length_cons,List.length_nil,List.append_nil,List.nil_append,List.take_zero,List.drop_succ_cons,List.drop_nil,Nat.zero_add,frOf,den_o0,den_o1,kont_app,den_reg,den_seq,den_block,↓reduceIte,↓e_bslice,↓e_mv,↓e_conv,↓fillE,Opd.ev,Sx.get,put,putO,del,dels,splice,SV.cells?,SV.one,Nat.le_refl]
  have e0:[SV.int .u8 (IntKind.u8.wrap tag)]=bys (ofM tag (ps.take 0)):=by rw [wrapB_sv];rfl
  rw [e0,den_loop]
  have f0:(ofM tag (ps.take 0)).length=1:=rfl
  refine den_inv cBR_ok (σ:=Nat) (fun j=>[(6,.int .i64 (j:Int)),(5,.slc 1 0 1 (ofM tag (ps.take j)).length none),(1,.slc 0 0 1 ps.length cap)])
    (fun j=>[(1,⟨.own 5,bys (ofM tag (ps.take j))⟩),(0,⟨.view,strs ps⟩)]) (fun _=>2) (fun j=>j≤ps.length) (fun j=>ps.length - j) 0 ?_ (Nat.zero_le _) ?_
  · exact ⟨[(0,0),(1,0)],by simp only [rS,EntM,compat,apartM,keysBelow,eta,idHs,rd,Option.getD_some,List.getElem?_cons_zero,List.getElem?_cons_succ,List.length_cons,List.length_nil,Nat.zero_add,Nat.add_zero,Nat.reduceAdd,Nat.reduceSub,Nat.reduceLT,Nat.reduceLeDiff,↓reduceIte,Kind.isOwn,List.take_succ_cons,List.take_zero,List.nil_append,and_self,true_and,exists_eq_left',Option.some.injEq,List.drop_zero,List.take_length,Nat.le_refl,ne_eq,not_false_eq_true,implies_true,List.not_mem_nil,false_imp_iff,Bool.false_or,Bool.true_or,forall_const,List.mem_cons,or_false,forall_eq,Nat.succ_ne_self,ren_bytes],by simp only [frEnt,geto,eta,SV.ren,Option.getD_some,List.getElem?_cons_zero,List.getElem?_cons_succ,List.length_cons,List.length_nil,Nat.zero_add,Nat.add_zero,Nat.reduceAdd,Nat.reduceSub,Nat.reduceEqDiff,↓reduceIte,List.take_zero,and_self,and_true,Option.some.injEq,Nat.succ_ne_self] <;> exact ⟨rfl,rfl⟩⟩
  · intro j hj
    have hln:=len_strs ps
    by_cases hj2:j < ps.length
    · obtain ⟨p,hpj⟩:∃ p,ps[j]?=some p:=⟨ps[j],by simp [hj2]⟩
      have hpm:p ∈ ps:=List.mem_of_getElem? hpj
      have gp:=get_strs hpj
      have c1:(j:Int) < (ps.length:Int):=by omega
      have c2:(0:Int)≤(j:Int):=by omega
      have v4:IntKind.i64.wrap ((j:Int)+1)=((j+1:Nat):Int):=by rw [wrap64_eq (by omega) (by omega)];omega
      have gb:=gBytesR_eq (hp p hpm)
      have hst:=ofM_step (tag:=tag) hpj
      have hle:(ofM tag (ps.take (j+1))).length≤(ofM tag ps).length:=by
        have:=flat_le (ps:=ps) (j:=j+1)
        simp only [ofM,List.length_cons]
        omega
      have hle2:(ofM tag (ps.take j)).length+(encS p).length=(ofM tag (ps.take (j+1))).length:=by rw [← hst];simp
      have tb:=take_bytes (encS p)
      have ta:=take_bytes (ofM tag (ps.take j))
      have ap:bys (ofM tag (ps.take j))++bys (encS p)=bys (ofM tag (ps.take (j+1))):=by rw [bytes_app,hst]
      simp (config:={ maxSteps:=1000000 }) only [hln,c1,c2,v4,gp,↓gb,tb,ta,ap,hle2,lookF,again_n,reduceCtorEq,Nat.reduceEqDiff,Nat.reduceAdd,eq_self,decide_true, true_and,List.length_nil,List.append_nil,List.nil_append,List.cons_append,List.drop_zero,List.map_cons,List.map_nil,Nat.zero_add,Nat.add_zero,den_nil,den_o0,↓gd_tt,den_o1,kont_app,den_skip,den_reg,den_seq,den_cond,den_block,den_b,↓reduceIte,↓e_load,↓e_idxS,↓e_app,↓e_mv,↓e_bin,↓e_call,↓e_len,↓u_binV,↓u_srcOf,↓u_srcSl,↓binI,Opd.ev,Sx.get,put,putO,del,dels,rd,rm,↓u_callS,canLW,canV,belowL,apH,eta,SV.ren,newOwn,targets,rms,Kind.isOwn,ren_bytes,List.getElem?_nil,Option.getD_none,Nat.sub_zero,Nat.le_refl,len_bytes,Int.toNat_natCast,Nat.mul_one]
      exact ⟨hj2,by omega,by omega,j+1,⟨[(0,0),(3,0)],by simp only [rS,EntM,compat,apartM,keysBelow,eta,idHs,rd,Option.getD_some,List.getElem?_cons_zero,List.getElem?_cons_succ,List.length_cons,List.length_nil,Nat.zero_add,Nat.add_zero,Nat.reduceAdd,Nat.reduceSub,Nat.reduceLT,Nat.reduceLeDiff,↓reduceIte,Kind.isOwn,List.take_succ_cons,List.take_zero,List.nil_append,and_self,true_and,exists_eq_left',Option.some.injEq,List.drop_zero,List.take_length,Nat.le_refl,ne_eq,not_false_eq_true,implies_true,List.not_mem_nil,false_imp_iff,Bool.false_or,Bool.true_or,forall_const,reduceCtorEq,List.mem_cons,or_false,forall_eq,ren_bytes],by simp [frEnt,geto,eta,SV.ren,Option.getD_some,List.length_cons,List.length_nil,Nat.zero_add,Nat.add_zero,Nat.reduceAdd,Nat.reduceEqDiff,Nat.reduceLeDiff,↓reduceIte,and_self,Nat.succ_ne_self]⟩,by omega,by omega⟩
    · obtain rfl:j=ps.length:=by omega
      have e1:ps.take ps.length=ps:=List.take_length
      rw [e1]
      have c3:decide ((ps.length:Int) < (ps.length:Int))=false:=by simp
      simp (config:={ maxSteps:=1000000 }) only [c3,again_x,Nat.reduceEqDiff,eq_self, true_and,Nat.add_zero,den_nil,den_o0,↓gd_ft,den_o1,kont_app,den_reg,den_seq,den_cond,den_exit,den_ret,den_xb,den_xc,finE_r,↓reduceIte,↓e_mv,↓e_bin,↓e_len,↓u_binV,↓binI,↓evRes,Opd.ev,Sx.get,put,putO,del,dels,retOf,eta,SV.ren]
      exact ⟨[(0,0),(1,0)],by simp [EntM,compat,apartM,keysBelow,eta,idHs,rd,Option.getD_some,List.length_cons,List.length_nil,Nat.zero_add,Nat.add_zero,Nat.reduceAdd,Nat.reduceLeDiff,↓reduceIte,Kind.isOwn,List.take_succ_cons,List.take_zero,List.nil_append,and_self,true_and,exists_eq_left',Option.some.injEq,ne_eq,implies_true,List.not_mem_nil,Bool.true_or,forall_const,ren_bytes],by simp [Option.getD_some,List.length_cons,List.length_nil,Nat.zero_add,Nat.add_zero,Nat.reduceAdd,Nat.reduceLeDiff]⟩
def gIn:GS
  | [.int .i64 tag,.slc 0 0 1 len cap],[(0,⟨.view,cells⟩)]=>match unStr cells with
    | some ps=>match capB cap ps.length with
      | true=>if len=ps.length∧okT tag ps then some (.slc 1 0 1 (ofM tag ps).length none,[(1,⟨.own 5,bys (ofM tag ps)⟩)],2) else none
      | _=>none
    | none=>none
  | _,_=>none
theorem gIn_ok:FunS Tryz.prog tS 67 gIn:=by
  intro a0 m0 r m1 n1 h
  unfold gIn at h
  split at h
  · split at h
    · rename_i ps hps
      split at h
      · rename_i hcap
        split at h
        · rename_i hc
          cases h
          obtain ⟨rfl,h1⟩:=hc
          rw [unStr_some hps]
          exact ⟨f56 _ ps h1 _ (capB_ok hcap),by simp [freshB]⟩
        · cases h
      · cases h
    · cases h
  · cases h
end Go.Proofs.YtkfbkooobfepeaaGreatDoor

/- The reference's digest of parts. -/
namespace Go.Proofs.YtkfbkooobfepeaaGreatDoor
open Go Go.Sx Sf
set_option maxRecDepth 100000
set_option linter.unusedVariables false
def cpC (X:List UInt8) (i:Nat):List SV:=bys (X.take i)++List.replicate (16 - i) (.int .u8 0)
theorem cpC_len {X:List UInt8} {i:Nat} (hX:X.length=32) (h:i≤16):(cpC X i).length=16:=by simp [cpC,len_bytes,hX];omega
theorem cpC_all {X:List UInt8}:cpC X 16=bys (X.take 16):=by simp [cpC]
theorem cpC_put {X:List UInt8} {i:Nat} {x:UInt8} (hX:X[i]?=some x) (h:i < 16):splice (cpC X i) i [SV.int .u8 (x.toNat:Int)]=cpC X (i+1):=by
  unfold cpC
  rw [show (16 - i)=(16 - (i+1))+1 by omega,List.replicate_succ]
  have hi:i < X.length:=by
    rw [List.getElem?_eq_some_iff] at hX
    exact hX.1
  have:=splice_app (a:=bys (X.take i)) (b:=[.int .u8 0]) (c:=List.replicate (16 - (i+1)) (.int .u8 0)) (k:=i) (d:=[SV.byte x]) (by simp [len_bytes];omega) rfl
  simp only [List.cons_append,List.nil_append] at this
  rw [byte_I,this,List.take_add_one,hX,← bytes_app,List.append_assoc]
  rfl
theorem cpC_ren (η:Nat→Nat × Nat) (X:List UInt8) (i:Nat):SV.renL η (cpC X i)=cpC X i:=by
  refine SV.flatL_ren η _ ?_
  unfold cpC
  refine flatL_app (flat_bytes _) ?_
  generalize 16 - i=k
  induction k with
  | zero=>rfl
  | succ k ih=>rw [List.replicate_succ];simp only [SV.flatL,SV.flat,Bool.true_and];exact ih
def tabSh:List (FuncId × GS):=[(88,gSumR)]
theorem tabSh_ok:∀ x ∈ tabSh,FunS Tryz.prog tH2 x.1 x.2:=by
  intro x hx
  simp only [tabSh,List.mem_cons,List.not_mem_nil,or_false] at hx
  subst hx
  exact gSumR_ok
def cSh:CallT:=callS tabSh cF
theorem cSh_ok:∀ f a m n K,cSh f a m n K→callT Tryz.prog tH2 f a m n K:=callS_ok tabSh_ok cF_ok
theorem capB_of {cap:Option Nat} {n:Nat} (h:CapOk cap n):capB cap n=true:=by
  cases cap with
  | none=>rfl
  | some c=>exact Nat.ble_eq_true_of_le (h c rfl)
theorem gSumR_eq {m:List UInt8} {cap:Option Nat} (hm:m.length≤2 ^ 37) (hcap:CapOk cap m.length):gSumR [.slc 0 0 1 m.length cap] [(0,⟨.view,bys m⟩)]=some (.agg (bys (sumS m)),[],1):=by
  unfold gSumR
  simp only [unB_bytes,capB_of hcap,hm,and_self,if_true]
set_option maxHeartbeats 4000000 in
theorem f55 (m:List UInt8) (hm:m.length≤2 ^ 37) (cap:Option Nat) (hcap:CapOk cap m.length) :
    Fun Tryz.prog tH2 66 [.slc 0 0 1 m.length cap] [(0,⟨.view,bys m⟩)] 1 (.agg (bys ((sumS m).take 16))) [] 1:=by
  refine fun_val none cSh cSh_ok chk55 (show 1≤19 by decide) (fun η=>by simp only [SV.ren,ren_bytes]) ?_
  unfold sf55 om oq ov
  have gs:=gSumR_eq hm hcap
  have tm:=take_bytes m
  have hX:=sumS_len m
  generalize sumS m=X at *
  have hxl:(bys X).length=32:=by rw [len_bytes,hX]
  have rX:∀ η,SV.renL η (bys X)=bys X:=fun η=>ren_bytes η X
  simp (config:={ maxSteps:=1000000 }) only [cSh,tabSh,↓gs,tm,hxl,reduceCtorEq,Nat.reduceEqDiff,Nat.reduceAdd,Nat.reduceSub,Nat.reduceLT,↓reduceIte,upd,BC,↓PC]
  rw [den_loop]
  have rz:∀ η,SV.renL η z16=z16:=fun η=>SV.flatL_ren η z16 rfl
  have rC:∀ η i,SV.renL η (cpC X i)=cpC X i:=fun η i=>cpC_ren η X i
  have sX:∀ z:List SV,z.length=32→splice z 0 (bys X)=bys X:=fun z hz=>splice_all (by rw [hxl,hz])
  rw [sX]
  rotate_left
  · rfl
  refine den_inv cSh_ok (σ:=Nat) (fun i=>[(5,.int .i64 (i:Int)),(4,.ptr 3 0),(3,.ptr 2 0),(2,.ptr 1 0)]) (fun i=>[(3,⟨.own 23,cpC X i⟩),(2,⟨.own 121,bys X⟩),(1,⟨.own 23,z16⟩)]) (fun _=>4)
    (fun i=>i≤16) (fun i=>16 - i) 0 ?_ (Nat.zero_le _) ?_
  · exact ⟨[(0,0),(1,0),(2,0),(3,0)],by simp only [rX,rC,rz,Nat.reduceAdd,Nat.reduceSub,Nat.reduceEqDiff,Nat.reduceLT,Nat.reduceLeDiff,↓reduceIte,BC] <;> exact ⟨rfl,rfl⟩,by simp [Nat.reduceAdd,Nat.reduceEqDiff,Nat.reduceLT,Nat.reduceLeDiff,↓reduceIte,BC]⟩
  · intro i hi
    have lC:=cpC_len hX hi
    by_cases h16:i < 16
    · obtain ⟨x,hx⟩:∃ x,X[i]?=some x:=⟨X[i],by simp⟩
      have gx:=get_bysI hx
      have c1:(i:Int) < 16:=by omega
      have c2:(0:Int)≤(i:Int):=by omega
      have c3:(i:Int) < 32:=by omega
      have v4:IntKind.i64.wrap ((i:Int)+1)=((i+1:Nat):Int):=by rw [wrap64_eq (by omega) (by omega)];omega
      have op:=cpC_put hx h16
      simp (config:={ maxSteps:=1000000 }) only [c1,c2,c3,gx,v4,lC,op,Nat.reduceEqDiff,Nat.reduceLeDiff,↓reduceIte,upd,BC,↓PC]
      exact ⟨by omega,i+1,⟨[(0,0),(1,0),(2,0),(3,0)],by simp only [rX,rC,rz,Nat.reduceAdd,Nat.reduceSub,Nat.reduceEqDiff,Nat.reduceLT,Nat.reduceLeDiff,↓reduceIte,BC],by simp [Nat.reduceAdd,Nat.reduceEqDiff,Nat.reduceLT,Nat.reduceLeDiff,↓reduceIte,BC]⟩,by omega,by omega⟩
    · obtain rfl:i=16:=by omega
      simp (config:={ maxSteps:=1000000 }) only [lC,Nat.reduceEqDiff,Int.reduceLT,↓reduceIte,upd,BC,↓PC]
      have tC:List.take 16 (cpC X 16)=cpC X 16:=List.take_of_length_le (by omega)
      have sC:splice z16 0 (cpC X 16)=cpC X 16:=splice_all (by rw [lC];rfl)
      rw [tC,sC,tC]
      exact ⟨lC,by decide,by omega,cpC_all⟩
def gShort:GS
  | [.slc 0 0 1 len cap],[(0,⟨.view,cells⟩)]=>match unB cells with
    | some m=>match capB cap m.length with
      | true=>if len=m.length∧m.length≤2 ^ 37 then some (.agg (bys ((sumS m).take 16)),[],1) else none
      | _=>none
    | none=>none
  | _,_=>none
theorem gShort_eq {m:List UInt8} {cap:Option Nat} (hm:m.length≤2 ^ 37) (hcap:CapOk cap m.length):gShort [.slc 0 0 1 m.length cap] [(0,⟨.view,bys m⟩)]=some (.agg (bys ((sumS m).take 16)),[],1):=by
  unfold gShort
  simp only [unB_bytes,capB_of hcap,hm,and_self,if_true]
theorem gShort_ok:FunS Tryz.prog tH2 66 gShort:=by
  intro a0 m0 r m1 n1 h
  unfold gShort at h
  split at h
  · split at h
    · rename_i m hm
      split at h
      · rename_i hcap
        split at h
        · rename_i hc
          cases h
          obtain ⟨rfl,h2⟩:=hc
          rw [unB_some hm]
          exact ⟨f55 m h2 _ (capB_ok hcap),by simp [freshB]⟩
        · cases h
      · cases h
    · cases h
  · cases h
theorem gIn_eq {tag:Int} {ps:List (List UInt8)} {cap:Option Nat} (h:okT tag ps) (hcap:CapOk cap ps.length):gIn [.int .i64 tag,.slc 0 0 1 ps.length cap] [(0,⟨.view,strs ps⟩)]=some (.slc 1 0 1 (ofM tag ps).length none,[(1,⟨.own 5,bys (ofM tag ps)⟩)],2):=by
  unfold gIn
  simp only [unStr_strs,capB_of hcap,h,and_self,if_true]
def tabOR:List (FuncId × GS):=[(66,gShort),(67,gIn)]
theorem tabOR_ok:∀ x ∈ tabOR,FunS Tryz.prog tH2 x.1 x.2:=by
  intro x hx
  simp only [tabOR,List.mem_cons,List.not_mem_nil,or_false] at hx
  rcases hx with rfl | rfl
  · exact gShort_ok
  · exact gIn_ok
def cOR:CallT:=callS tabOR cF
theorem cOR_ok:∀ f a m n K,cOR f a m n K→callT Tryz.prog tH2 f a m n K:=callS_ok tabOR_ok cF_ok
theorem f40 (tag:Int) (ps:List (List UInt8)) (h:okT tag ps) (cap:Option Nat) (hcap:CapOk cap ps.length) :
    Fun Tryz.prog tH2 32 [.int .i64 tag,.slc 0 0 1 ps.length cap] [(0,⟨.view,strs ps⟩)] 1 (.agg (bys (ofS tag ps))) [] 1:=by
  refine fun_val none cOR cOR_ok chk40 (show 2≤9 by decide) (fun η=>by simp only [SV.ren,ren_bytes]) ?_
  unfold sf40 om oq ov
  have g1:=gIn_eq h hcap
  have ts:List.take ps.length (strs ps)=strs ps:=List.take_of_length_le (by rw [len_strs];omega)
  have g2:=gShort_eq (m:=ofM tag ps) (cap:=none) (by have:=h.2.1;omega) (fun c hc=>by cases hc)
  have tm:=take_bytes (ofM tag ps)
  have hln:=len_strs ps
  have hfs:=flat_strs ps
  have e:(sumS (ofM tag ps)).take 16=ofS tag ps:=rfl
  have l16:(ofS tag ps).length=16:=ofS_len tag ps
  rw [e] at g2
  simp (config:={ maxSteps:=1000000 }) only [cOR,tabOR,↓g1,↓g2,ts,tm,hln,hfs,l16,reduceCtorEq,Nat.reduceEqDiff,Nat.reduceAdd,Nat.reduceSub,Nat.reduceLT,↓reduceIte,upd,BC,↓PC]
  have lO:(bys (ofS tag ps)).length=16:=by rw [len_bytes,l16]
  have sO:∀ z:List SV,z.length=16→splice z 0 (bys (ofS tag ps))=bys (ofS tag ps):=fun z hz=>splice_all (by rw [lO,hz])
  rw [sO]
  · exact ⟨by omega,List.take_of_length_le (by omega)⟩
  · rfl
def gOfR:GS
  | [.int .i64 tag,.slc 0 0 1 len cap],[(0,⟨.view,cells⟩)]=>match unStr cells with
    | some ps=>match capB cap ps.length with
      | true=>if len=ps.length∧okT tag ps then some (.agg (bys (ofS tag ps)),[],1) else none
      | _=>none
    | none=>none
  | _,_=>none
theorem gOfR_ok:FunS Tryz.prog tH2 32 gOfR:=by
  intro a0 m0 r m1 n1 h
  unfold gOfR at h
  split at h
  · split at h
    · rename_i ps hps
      split at h
      · rename_i hcap
        split at h
        · rename_i hc
          cases h
          obtain ⟨rfl,h1⟩:=hc
          rw [unStr_some hps]
          exact ⟨f40 _ ps h1 _ (capB_ok hcap),by simp [freshB]⟩
        · cases h
      · cases h
    · cases h
  · cases h
end Go.Proofs.YtkfbkooobfepeaaGreatDoor

/- The reference's authentication code. -/
namespace Go.Proofs.YtkfbkooobfepeaaGreatDoor
open Go Go.Sx Sf
set_option maxRecDepth 100000
set_option linter.unusedVariables false
variable {tS:List (Nat × List SV)}
theorem f292 (d:List UInt8) (hd:d.length=32):Fun Tryz.prog tS 92 [.agg (bys d)] [] 0 (.str d) [] 0:=by
  refine fun_any none cF cF_ok chk292 (show 1≤17 by decide) (by decide) ?_
  unfold sf292 om oq
  simp (config:={ maxSteps:=1000000 }) only [reduceCtorEq,Nat.reduceEqDiff,eq_self,Nat.zero_add,frOf,den_o0,den_o1,kont_app,den_reg,den_seq,den_block,↓reduceIte,↓e_box,↓e_mv,Opd.ev,Sx.get,put,putO,del,dels,SV.cells?]
  rw [den_loop]
  refine den_inv cF_ok (σ:=Nat) (fun i=>[(4,.int .i64 (i:Int)),(3,nlS 1 1 i),(1,.ptr 0 0)])
    (fun i=>nlM 1 5 (bys (d.take i)) [(0,⟨.own 121,bys d⟩)] i) (fun i=>nlN 1 i) (fun i=>i≤32) (fun i=>32 - i) 0 ?_ (Nat.zero_le _) ?_
  · exact ⟨[(0,0)],by simp [EntM,compat,apartM,keysBelow,eta,idHs,rd,Option.getD_some,List.length_cons,List.length_nil,Nat.zero_add,Nat.add_zero,↓reduceIte,Kind.isOwn,List.take_zero,and_self,true_and,exists_eq_left',Option.some.injEq,ne_eq,implies_true,List.not_mem_nil,Bool.true_or,forall_const,ren_bytes,nlM_0,nlN_0],by simp [frEnt,geto,eta,SV.ren,Option.getD_some,List.length_cons,List.length_nil,Nat.zero_add,Nat.add_zero,Nat.reduceEqDiff,↓reduceIte,and_self,Nat.succ_ne_self,nlS_0]⟩
  · intro i hi
    by_cases h:i < 32
    · have c1:(i:Int) < 32:=by omega
      have c2:(0:Int)≤(i:Int):=by omega
      have wi:IntKind.i64.wrap ((i:Int)+1)=((i+1:Nat):Int):=by rw [wrap64_eq (by omega) (by omega)];omega
      obtain ⟨x,hx⟩:∃ x,d[i]?=some x:=⟨_,List.getElem?_eq_getElem (by omega)⟩
      have gx:=get_bysI hx
      have ht:bys (d.take i)++[SV.byte x]=bys (d.take (i+1)):=by
        rw [bytes_app1,List.take_add_one,hx];rfl
      have hlt:(bys (d.take i)).length=i:=by rw [len_bytes];simp;omega
      cases i with
      | zero=>
        simp (config:={ maxSteps:=1000000 }) only [gx,again_n,Nat.reduceEqDiff,Nat.reduceAdd,Int.reduceToNat,Int.reduceLT,Int.reduceLE,Int.reduceAdd,Int.reduceNeg,wrap64,eq_self,decide_true,Int.cast_ofNat_Int, true_and,List.length_cons,List.length_nil,List.append_nil,List.nil_append,List.take_succ_cons,List.take_zero,List.drop_succ_cons,List.drop_zero,List.take_nil,List.drop_nil,Nat.zero_add,Nat.add_zero,den_nil,den_o0,↓gd_tt,den_o1,kont_app,den_skip,den_reg,den_seq,den_cond,den_block,den_b,↓reduceIte,↓e_bslice,↓e_load,↓e_app,↓e_mv,↓e_idxA,↓e_bin,↓u_onInt,↓u_binV,↓u_srcOf,↓u_srcSl,↓binI,↓fillE,Opd.ev,Sx.get,put,putO,del,dels,rd,splice,SV.cells?,SV.one,Nat.sub_zero,Nat.le_refl,nlS_0,nlM_0,nlN_0,Nat.mul_one,Int.cast_ofNat_Int]
        rw [byte_I]
        have ht:bys (d.take (0+1))=bys [x]:=by rw [← ht];rfl
        exact ⟨by omega,by omega,0+1,⟨[(0,0),(2,0)],by simp only [ht,EntM,compat,apartM,keysBelow,eta,idHs,rd,Option.getD_some,List.getElem?_cons_zero,List.getElem?_cons_succ,List.length_cons,List.length_nil,Nat.zero_add,Nat.add_zero,Nat.reduceAdd,Nat.reduceSub,Nat.reduceLT,Nat.reduceLeDiff,↓reduceIte,Kind.isOwn,List.take_zero,and_self,true_and,exists_eq_left',Option.some.injEq,ne_eq,not_false_eq_true,implies_true,List.not_mem_nil,false_imp_iff,Bool.true_or,forall_const,reduceCtorEq,List.mem_cons,or_false,forall_eq,Nat.succ_ne_self,one_byte,ren_bytes,nlM_1,nlN_1],by simp only [frEnt,geto,eta,SV.ren,Option.getD_some,List.getElem?_cons_zero,List.getElem?_cons_succ,List.length_cons,List.length_nil,Nat.zero_add,Nat.add_zero,Nat.reduceAdd,Nat.reduceSub,Nat.reduceEqDiff,↓reduceIte,and_self,and_true,Option.some.injEq,Nat.succ_ne_self,nlS_1];trivial⟩,by omega,by omega⟩
      | succ i=>
        simp (config:={ maxSteps:=1000000 }) only [c1,c2,wi,gx,again_n,reduceCtorEq,Nat.reduceEqDiff,Nat.reduceAdd,eq_self,decide_true,Int.cast_ofNat_Int, true_and,List.length_cons,List.length_nil,List.append_nil,List.nil_append,List.take_succ_cons,List.take_zero,List.drop_succ_cons,List.drop_zero,List.take_nil,List.drop_nil,Nat.zero_add,den_nil,den_o0,↓gd_tt,den_o1,kont_app,den_skip,den_reg,den_seq,den_cond,den_block,den_b,↓reduceIte,↓e_bslice,↓e_load,↓e_app,↓e_mv,↓e_idxA,↓e_bin,↓u_onInt,↓u_binV,↓u_srcOf,↓u_srcSl,↓binI,↓fillE,Opd.ev,Sx.get,put,putO,del,dels,rd,rm,splice,SV.cells?,SV.one,Nat.le_refl,nlS_1,nlM_1,nlN_1,len_bytes,Int.toNat_natCast,Nat.mul_one,Int.cast_ofNat_Int]
        rw [byte_I]
        have e0:List.take (i+1) (bys (List.take (i+1) d))=bys (List.take (i+1) d):=List.take_of_length_le (by omega)
        rw [e0,ht]
        exact ⟨by omega,by omega,by rw [len_bytes] at hlt;omega,i+1+1,⟨[(0,0),(3,0)],by simp only [EntM,compat,apartM,keysBelow,eta,idHs,rd,Option.getD_some,List.getElem?_cons_zero,List.getElem?_cons_succ,List.length_cons,List.length_nil,Nat.zero_add,Nat.add_zero,Nat.reduceAdd,Nat.reduceSub,Nat.reduceLT,Nat.reduceLeDiff,↓reduceIte,Kind.isOwn,List.take_zero,and_self,true_and,exists_eq_left',Option.some.injEq,ne_eq,not_false_eq_true,implies_true,List.not_mem_nil,false_imp_iff,Bool.true_or,forall_const,reduceCtorEq,List.mem_cons,or_false,forall_eq,one_byte,ren_bytes,nlM_1,nlN_1],by simp only [frEnt,geto,eta,SV.ren,Option.getD_some,List.getElem?_cons_zero,List.getElem?_cons_succ,List.length_cons,List.length_nil,Nat.zero_add,Nat.add_zero,Nat.reduceAdd,Nat.reduceSub,Nat.reduceEqDiff,↓reduceIte,and_self,Nat.succ_ne_self,nlS_1]⟩,by omega,by omega⟩
    · obtain rfl:i=32:=by omega
      simp (config:={ maxSteps:=1000000 }) only [again_x,Nat.reduceEqDiff,Nat.reduceAdd,Int.reduceLT,eq_self,decide_false,Int.cast_ofNat_Int, true_and,List.drop_zero,Nat.zero_add,den_nil,den_o0,↓gd_ft,den_o1,kont_app,den_reg,den_seq,den_cond,den_exit,den_ret,den_xb,den_xc,finE_r,↓reduceIte,↓e_b2s,↓e_mv,↓e_bin,↓u_binV,↓u_srcSl,↓binI,↓evRes,Opd.ev,Sx.get,put,putO,del,dels,rd,retOf,SV.ren,nlS_1,nlM_1,nlN_1,len_bytes,Nat.mul_one,Int.cast_ofNat_Int]
      have e:List.take 32 d=d:=List.take_of_length_le (by omega)
      have e1:List.take 32 (bys d)=bys d:=List.take_of_length_le (by rw [len_bytes];omega)
      rw [e,e1,map_byteOf]
      exact ⟨by omega,all_isU8 _,[],by simp [EntM,compat,apartM,keysBelow,idHs,List.length_nil,List.take_nil,and_self],rfl⟩
def gTx32:List SV→Option SV
  | [.agg cells]=>match unB cells with
    | some d=>if d.length=32 then some (.str d) else none
    | none=>none
  | _=>none
theorem gTx32_eq {d:List UInt8} (hd:d.length=32):gTx32 [.agg (bys d)]=some (.str d):=by
  unfold gTx32
  simp only [unB_bytes]
  rw [if_pos hd]
def padB (a w:Int):UInt8:=wrapB ((BitVec.ofInt 8 a ^^^ BitVec.ofInt 8 w).toNat:Int)
theorem padB_sv (a w:Int):SV.int .u8 (bitop .xor .u8 a w)=SV.byte (padB a w):=wrapB_sv _
def padAt (key:List UInt8) (w:Int) (i:Nat):UInt8:=padB ((key.getD i 0).toNat:Int) w
def padK (key:List UInt8) (w:Int) (n:Nat):List UInt8:=(List.range n).map (padAt key w)
theorem padK_len (key:List UInt8) (w:Int) (n:Nat):(padK key w n).length=n:=by simp [padK]
theorem padK_step (key:List UInt8) (w:Int) (n:Nat):bys (padK key w n)++[SV.byte (padAt key w n)]=bys (padK key w (n+1)):=by
  rw [bytes_app1];congr 1;simp [padK,List.range_succ]
set_option maxHeartbeats 4000000 in
theorem f291 (key:List UInt8) (w:Int) (hk:key.length≤64):Fun Tryz.prog tS 91 [.str key,.int .u8 w] [] 0 (.slc 0 0 1 64 none) [(0,⟨.own 5,bys (padK key w 64)⟩)] 1:=by
  refine fun_any none cF cF_ok chk291 (show 2≤35 by decide) (by decide) ?_
  unfold sf291 om oq
  have c0:¬ (key.length:Int) > 64:=by omega
  simp (config:={ maxSteps:=1000000 }) only [c0,reduceCtorEq,Nat.reduceEqDiff,eq_self,decide_false, true_and,Nat.zero_add,frOf,den_o0,↓gd_ft,den_o1,kont_app,den_skip,den_reg,den_seq,den_cond,den_block,↓reduceIte,↓e_mv,↓e_bin,↓e_len,↓u_binV,↓binI,Opd.ev,Sx.get,put,putO,del,dels]
  rw [den_loop]
  refine den_inv cF_ok (σ:=Nat) (fun i=>[(7,.int .i64 (i:Int)),(6,nlS 0 1 i),(5,.str key),(1,.int .u8 w)])
    (fun i=>nlM 0 5 (bys (padK key w i)) [] i) (fun i=>nlN 0 i) (fun i=>i≤64) (fun i=>64 - i) 0 ?_ (Nat.zero_le _) ?_
  · exact ⟨[],by simp [EntM,compat,apartM,keysBelow,idHs,List.length_nil,List.take_nil,and_self,nlM_0,nlN_0],by simp [frEnt,geto,SV.ren,Nat.reduceEqDiff,↓reduceIte,and_self,Nat.succ_ne_self,nlS_0]⟩
  · intro i hi
    by_cases h:i < 64
    · have c1:(i:Int) < 64:=by omega
      have c2:(0:Int)≤(i:Int):=by omega
      have wi:IntKind.i64.wrap ((i:Int)+1)=((i+1:Nat):Int):=by rw [wrap64_eq (by omega) (by omega)];omega
      have ht:=padK_step key w i
      have hln:=padK_len key w i
      by_cases hik:i < key.length
      · have c3:(i:Int) < (key.length:Int):=by omega
        obtain ⟨x,hx⟩:∃ x,key[i]?=some x:=⟨_,List.getElem?_eq_getElem hik⟩
        have hp:padAt key w i=padB (x.toNat:Int) w:=by unfold padAt;rw [List.getD_eq_getElem?_getD,hx];rfl
        rw [hp] at ht
        cases i with
        | zero=>
          have c3':(0:Int) < (key.length:Int):=c3
          have ht:[SV.byte (padB (x.toNat:Int) w)]=bys (padK key w (0+1)):=ht
          simp (config:={ maxSteps:=1000000 }) only [c3',hx,SV.byte,padB_sv,again_n,Nat.reduceEqDiff,Nat.reduceAdd,Int.reduceToNat,Int.reduceLT,Int.reduceLE,Int.reduceAdd,Int.reduceNeg,wrap64,eq_self,decide_true,Int.cast_ofNat_Int, true_and,List.length_cons,List.length_nil,List.append_nil,List.nil_append,List.take_succ_cons,List.take_zero,List.drop_succ_cons,List.drop_zero,List.take_nil,List.drop_nil,Nat.zero_add,den_nil,den_o0,↓gd_tt,den_o1,kont_app,den_skip,den_reg,den_seq,den_cond,den_block,den_b,↓reduceIte,↓e_bslice,↓e_idxT,↓e_app,↓e_mv,↓e_bin,↓e_len,↓u_binV,↓u_srcOf,↓u_srcSl,↓binI,↓fillE,Opd.ev,Sx.get,put,putO,del,dels,rd,splice,SV.cells?,SV.one,Nat.sub_zero,Nat.le_refl,nlS_0,nlM_0,nlN_0,Nat.mul_one,Int.cast_ofNat_Int]
          rw [byte_I,ht]
          exact ⟨by omega,by omega,0+1,⟨[(1,0)],by simp only [EntM,compat,apartM,keysBelow,eta,idHs,rd,Option.getD_some,List.getElem?_cons_zero,List.length_cons,List.length_nil,Nat.zero_add,Nat.add_zero,Nat.reduceSub,Nat.reduceLT,Nat.reduceLeDiff,↓reduceIte,Kind.isOwn,List.take_zero,and_self,true_and,exists_eq_left',Option.some.injEq,ne_eq,implies_true,List.not_mem_nil,false_imp_iff,Bool.true_or,forall_const,ren_bytes,nlM_1,nlN_1],by simp only [frEnt,geto,eta,SV.ren,Option.getD_some,List.getElem?_cons_zero,List.length_cons,List.length_nil,Nat.zero_add,Nat.add_zero,Nat.reduceSub,Nat.reduceEqDiff,↓reduceIte,and_self,and_true,Option.some.injEq,Nat.succ_ne_self,nlS_1];trivial⟩,by omega,by omega⟩
        | succ i=>
          simp (config:={ maxSteps:=1000000 }) only [c1,c2,c3,wi,hx,SV.byte,padB_sv,again_n,reduceCtorEq,Nat.reduceEqDiff,Nat.reduceAdd,eq_self,decide_true, true_and,List.length_cons,List.length_nil,List.append_nil,List.nil_append,List.take_succ_cons,List.take_zero,List.drop_succ_cons,List.drop_zero,List.take_nil,List.drop_nil,Nat.zero_add,den_nil,den_o0,↓gd_tt,den_o1,kont_app,den_skip,den_reg,den_seq,den_cond,den_block,den_b,↓reduceIte,↓e_bslice,↓e_idxT,↓e_app,↓e_mv,↓e_bin,↓e_len,↓u_binV,↓u_srcOf,↓u_srcSl,↓binI,↓fillE,Opd.ev,Sx.get,put,putO,del,dels,rd,rm,splice,SV.cells?,SV.one,Nat.le_refl,nlS_1,nlM_1,nlN_1,len_bytes,Int.toNat_natCast,Nat.mul_one]
          have e0:List.take (i+1) (bys (padK key w (i+1)))=bys (padK key w (i+1)):=List.take_of_length_le (by rw [len_bytes,hln];exact Nat.le_refl _)
          rw [byte_I,e0,ht]
          exact ⟨by omega,by omega,by omega,i+1+1,⟨[(2,0)],by simp only [EntM,compat,apartM,keysBelow,eta,idHs,rd,Option.getD_some,List.getElem?_cons_zero,List.length_cons,List.length_nil,Nat.zero_add,Nat.add_zero,Nat.reduceSub,Nat.reduceLT,Nat.reduceLeDiff,↓reduceIte,Kind.isOwn,List.take_zero,and_self,true_and,exists_eq_left',Option.some.injEq,ne_eq,implies_true,List.not_mem_nil,false_imp_iff,Bool.true_or,forall_const,one_byte,ren_bytes,nlM_1,nlN_1],by simp only [frEnt,geto,eta,SV.ren,Option.getD_some,List.getElem?_cons_zero,List.length_cons,List.length_nil,Nat.zero_add,Nat.add_zero,Nat.reduceSub,Nat.reduceEqDiff,↓reduceIte,and_self,Nat.succ_ne_self,nlS_1]⟩,by omega,by omega⟩
      · have c3:¬ (i:Int) < (key.length:Int):=by omega
        have hp:padAt key w i=padB 0 w:=by unfold padAt;rw [List.getD_eq_getElem?_getD,List.getElem?_eq_none (by omega)];rfl
        rw [hp] at ht
        cases i with
        | zero=>
          have c3':¬ (0:Int) < (key.length:Int):=c3
          have ht:[SV.byte (padB 0 w)]=bys (padK key w (0+1)):=ht
          simp (config:={ maxSteps:=1000000 }) only [c3',SV.byte,padB_sv,again_n,Nat.reduceEqDiff,Nat.reduceAdd,Int.reduceLT,Int.reduceLE,Int.reduceAdd,Int.reduceNeg,wrap64,eq_self,decide_true,decide_false,Int.cast_ofNat_Int, true_and,List.length_cons,List.length_nil,List.append_nil,List.nil_append,List.take_succ_cons,List.take_zero,List.drop_succ_cons,List.drop_zero,List.take_nil,List.drop_nil,Nat.zero_add,den_nil,den_o0,↓gd_tt,↓gd_ft,den_o1,kont_app,den_skip,den_reg,den_seq,den_cond,den_block,den_b,↓reduceIte,↓e_bslice,↓e_app,↓e_mv,↓e_bin,↓e_len,↓u_binV,↓u_srcOf,↓u_srcSl,↓binI,↓fillE,Opd.ev,Sx.get,put,putO,del,dels,rd,splice,SV.cells?,SV.one,Nat.sub_zero,Nat.le_refl,nlS_0,nlM_0,nlN_0,Nat.mul_one,Int.cast_ofNat_Int]
          rw [byte_I,ht]
          exact ⟨by omega,by omega,0+1,⟨[(1,0)],by simp only [EntM,compat,apartM,keysBelow,eta,idHs,rd,Option.getD_some,List.getElem?_cons_zero,List.length_cons,List.length_nil,Nat.zero_add,Nat.add_zero,Nat.reduceSub,Nat.reduceLT,Nat.reduceLeDiff,↓reduceIte,Kind.isOwn,List.take_zero,and_self,true_and,exists_eq_left',Option.some.injEq,ne_eq,implies_true,List.not_mem_nil,false_imp_iff,Bool.true_or,forall_const,ren_bytes,nlM_1,nlN_1],by simp only [frEnt,geto,eta,SV.ren,Option.getD_some,List.getElem?_cons_zero,List.length_cons,List.length_nil,Nat.zero_add,Nat.add_zero,Nat.reduceSub,Nat.reduceEqDiff,↓reduceIte,and_self,and_true,Option.some.injEq,Nat.succ_ne_self,nlS_1];trivial⟩,by omega,by omega⟩
        | succ i=>
          simp (config:={ maxSteps:=1000000 }) only [c1,c3,wi,SV.byte,padB_sv,again_n,reduceCtorEq,Nat.reduceEqDiff,Nat.reduceAdd,eq_self,decide_true,decide_false, true_and,List.length_cons,List.length_nil,List.append_nil,List.nil_append,List.take_succ_cons,List.take_zero,List.drop_succ_cons,List.drop_zero,List.take_nil,List.drop_nil,Nat.zero_add,den_nil,den_o0,↓gd_tt,↓gd_ft,den_o1,kont_app,den_skip,den_reg,den_seq,den_cond,den_block,den_b,↓reduceIte,↓e_bslice,↓e_app,↓e_mv,↓e_bin,↓e_len,↓u_binV,↓u_srcOf,↓u_srcSl,↓binI,↓fillE,Opd.ev,Sx.get,put,putO,del,dels,rd,rm,splice,SV.cells?,SV.one,Nat.le_refl,nlS_1,nlM_1,nlN_1,len_bytes,Nat.mul_one]
          have e0:List.take (i+1) (bys (padK key w (i+1)))=bys (padK key w (i+1)):=List.take_of_length_le (by rw [len_bytes,hln];exact Nat.le_refl _)
          rw [byte_I,e0,ht]
          exact ⟨by omega,by omega,by omega,i+1+1,⟨[(2,0)],by simp only [EntM,compat,apartM,keysBelow,eta,idHs,rd,Option.getD_some,List.getElem?_cons_zero,List.length_cons,List.length_nil,Nat.zero_add,Nat.add_zero,Nat.reduceSub,Nat.reduceLT,Nat.reduceLeDiff,↓reduceIte,Kind.isOwn,List.take_zero,and_self,true_and,exists_eq_left',Option.some.injEq,ne_eq,implies_true,List.not_mem_nil,false_imp_iff,Bool.true_or,forall_const,one_byte,ren_bytes,nlM_1,nlN_1],by simp only [frEnt,geto,eta,SV.ren,Option.getD_some,List.getElem?_cons_zero,List.length_cons,List.length_nil,Nat.zero_add,Nat.add_zero,Nat.reduceSub,Nat.reduceEqDiff,↓reduceIte,and_self,Nat.succ_ne_self,nlS_1]⟩,by omega,by omega⟩
    · obtain rfl:i=64:=by omega
      simp (config:={ maxSteps:=1000000 }) only [again_x,Nat.reduceEqDiff,Nat.reduceAdd,Int.reduceLT,eq_self,decide_false,Int.cast_ofNat_Int, true_and,Nat.zero_add,Nat.add_zero,den_nil,den_o0,↓gd_ft,den_o1,kont_app,den_reg,den_seq,den_cond,den_exit,den_ret,den_xb,den_xc,finE_r,↓reduceIte,↓e_mv,↓e_bin,↓u_binV,↓binI,↓evRes,Opd.ev,Sx.get,put,putO,del,dels,retOf,eta,SV.ren,nlS_1,nlM_1,nlN_1,Int.cast_ofNat_Int]
      exact ⟨[(0,0)],by simp [EntM,compat,apartM,keysBelow,eta,idHs,rd,Option.getD_some,List.length_cons,List.length_nil,Nat.zero_add,Nat.add_zero,↓reduceIte,Kind.isOwn,List.take_zero,and_self,true_and,exists_eq_left',Option.some.injEq,ne_eq,implies_true,List.not_mem_nil,Bool.true_or,forall_const,ren_bytes],by simp [Option.getD_some,List.length_cons,List.length_nil,Nat.zero_add,Nat.add_zero]⟩
def gPadK (pd:List UInt8→Int→List UInt8):GS
  | [.str key,.int .u8 w],[]=>if key.length≤64 then some (.slc 0 0 1 64 none,[(0,⟨.own 5,bys (pd key w)⟩)],1) else none
  | _,_=>none
def PadOk (pd:List UInt8→Int→List UInt8):Prop:=∀ (key:List UInt8) (w:Int),key.length≤64→(pd key w).length=64∧∀ tS:List (Nat × List SV),Fun Tryz.prog tS 91 [.str key,.int .u8 w] [] 0 (.slc 0 0 1 64 none) [(0,⟨.own 5,bys (pd key w)⟩)] 1
theorem padK_ok:PadOk (fun key w=>padK key w 64):=fun key w h=>⟨padK_len key w 64,fun tS=>f291 key w h⟩
theorem gPadK_ok {pd:List UInt8→Int→List UInt8} (hpd:PadOk pd):FunS Tryz.prog tS 91 (gPadK pd):=by
  intro a0 m0 r m1 n1 h
  unfold gPadK at h
  split at h
  · split at h
    · rename_i hc
      cases h
      exact ⟨(hpd _ _ hc).2 tS,by simp [freshB]⟩
    · cases h
  · cases h
def macS (key text:List UInt8):List UInt8:=sumS (padK key 92 64++sumS (padK key 54 64++text))
theorem macS_len (key text:List UInt8):(macS key text).length=32:=sumS_len _
def tabMac (pd:List UInt8→Int→List UInt8):List (FuncId × GS):=[(91,gPadK pd),(88,gSumR)]
theorem tabMac_ok {pd:List UInt8→Int→List UInt8} (hpd:PadOk pd):∀ x ∈ tabMac pd,FunS Tryz.prog tH2 x.1 x.2:=by
  intro x hx
  simp only [tabMac,List.mem_cons,List.not_mem_nil,or_false] at hx
  rcases hx with rfl | rfl
  · exact gPadK_ok hpd
  · exact gSumR_ok
def tbMac:Tab:=⟨[(92,gTx32)],[]⟩
theorem tbMac_ok:TabX Tryz.prog tS tbMac:=by
  refine ⟨fun x h args r hr=>?_,fun x h=>by simp [tbMac] at h⟩
  simp only [tbMac,List.mem_singleton] at h
  subst h
  simp only at hr
  unfold gTx32 at hr
  split at hr
  · split at hr
    · rename_i d hd
      split at hr
      · rename_i hc
        cases hr
        rw [unB_some hd]
        exact ⟨f292 d hc,fun η=>by simp only [SV.renL,SV.ren,ren_bytes],fun η=>rfl⟩
      · cases hr
    · cases hr
  · cases hr
def cMac (pd:List UInt8→Int→List UInt8):CallT:=callS (tabMac pd) (callX tbMac)
theorem cMac_ok {pd:List UInt8→Int→List UInt8} (hpd:PadOk pd):∀ f a m n K,cMac pd f a m n K→callT Tryz.prog tH2 f a m n K:=callS_ok (tabMac_ok hpd) (callX_ok tbMac_ok)
set_option maxHeartbeats 4000000 in
theorem f274p (pd:List UInt8→Int→List UInt8) (hpd:PadOk pd) (key text:List UInt8) (hk:key.length≤64) (ht:text.length≤2 ^ 30):Fun Tryz.prog tH2 74 [.str key,.str text] [] 0 (.str (sumS (pd key 92++sumS (pd key 54++text)))) [] 0:=by
  refine fun_pure none (cMac pd) (cMac_ok hpd) chk274 (show 2≤22 by decide) (fun η=>rfl) ?_
  unfold sf274 om oq
  have l1:=(hpd key 54 hk).1
  have l2:=(hpd key 92 hk).1
  generalize hA:pd key 54=A at *
  generalize hB:pd key 92=B at *
  have gs1:=gSumR_eq (m:=A++text) (cap:=none) (by rw [List.length_append];omega) (fun c hc=>by cases hc)
  have hs1:=sumS_len (A++text)
  have la:(A++text).length=64+text.length:=by rw [List.length_append,l1]
  rw [la] at gs1
  generalize sumS (A++text)=S1 at *
  have gs2:=gSumR_eq (m:=B++S1) (cap:=none) (by rw [List.length_append];omega) (fun c hc=>by cases hc)
  have lb:(B++S1).length=64+S1.length:=by rw [List.length_append,l2]
  rw [lb] at gs2
  have hs2:=sumS_len (B++S1)
  generalize sumS (B++S1)=S2 at *
  have gt1:=gTx32_eq hs1
  have gt2:=gTx32_eq hs2
  have t1:List.take 64 (bys A)=bys A:=List.take_of_length_le (by rw [len_bytes,l1];exact Nat.le_refl _)
  have t2:List.take 64 (bys B)=bys B:=List.take_of_length_le (by rw [len_bytes,l2];exact Nat.le_refl _)
  have a1:=bytes_app A text
  have a2:=bytes_app B S1
  have t3:List.take (64+text.length) (bys (A++text))=bys (A++text):=List.take_of_length_le (by rw [len_bytes,la];exact Nat.le_refl _)
  have t4:List.take (64+S1.length) (bys (B++S1))=bys (B++S1):=List.take_of_length_le (by rw [len_bytes,lb];exact Nat.le_refl _)
  have n1:(64:Nat)+text.length≤2 ^ 40:=by omega
  have n2:(64:Nat)+S1.length≤2 ^ 40:=by omega
  simp (config:={ maxSteps:=1000000 }) only [cMac,tabMac,tbMac,gPadK,hk,hA,hB,l1,l2,t1,t2,a1,a2,t3,t4,la,lb,↓gs1,↓gs2,↓gt1,↓gt2,n1,n2,SV.flatL,SV.flat,Bool.and_self,and_self,↓u_callX,lookF,reduceCtorEq,Nat.reduceEqDiff,Nat.reduceAdd,Nat.reduceSub,Nat.reduceLT,eq_self, true_and,and_true,List.length_cons,List.length_nil,List.append_nil,List.nil_append,List.cons_append,List.drop_zero,List.map_cons,List.map_nil,Nat.zero_add,Nat.add_zero,frOf,den_nil,den_o0,den_o1,kont_app,den_reg,den_seq,den_ret,finP_r,↓reduceIte,↓e_app,↓e_mv,↓e_call,↓e_callp,↓u_srcOf,↓evRes,Opd.ev,Sx.get,put,putO,del,dels,rd,rm,retOf,↓u_callS,canLW,canV,canC,belowL,apH,apH1,eta,SV.ren,newOwn,targets,rms,Kind.isOwn,ren_bytes,List.getElem?_nil,Option.getD_none,Nat.sub_zero,Nat.le_refl,map_byte,len_bytes,flat_bytes,Nat.mul_one]
  decide
theorem f274 (key text:List UInt8) (hk:key.length≤64) (ht:text.length≤2 ^ 30):Fun Tryz.prog tH2 74 [.str key,.str text] [] 0 (.str (macS key text)) [] 0:=
  f274p _ padK_ok key text hk ht
end Go.Proofs.YtkfbkooobfepeaaGreatDoor

/- The functions of the program that are walked through, written out for the engine (printed by wip/tools/Print.lean from the dump), and the kernel's check of each against the program. -/
namespace Go.Proofs.YtkfbkooobfepeaaGreatDoor.Sf
open Go Go.Sx
set_option maxRecDepth 100000
set_option linter.unusedSimpArgs false
set_option linter.unusedVariables false
def sf91:SF:=⟨19,[.t 4,.t 5],.seq (.reg [om 4 (.c (.int .i64 0)) [4],om 5 (.c (.val .nilIface)) [5]]) (.seq (.reg [om 6 (.t 0) [],oq 7 (.call 107 [.t 6]) [6,7]]) (.seq (.reg [om 8 (.t 0)
  [],om 9 (.t 0) [0],oq 10 (.nilc (.t 9)) [9],oq 11 (.fld (.t 10) 1) [10],oq 12 (.load none (.t 11)) [11],om 13 (.t 1) [],oq 14 (.app 5 1 1 (.t 12) (.t 13)) [12,13],oq 15 (.nilc (.t 8)
 ) [8],oq 16 (.fld (.t 15) 1) [15],ov (.store 1 (.t 16) (.t 14)) [14,16]]) (.seq (.reg [om 17 (.t 1) [1],oq 18 (.len false (.t 17)) [17],om 4 (.t 18) [18],om 5 (.c (.val .nilIface)) []])
  (.ret))))⟩
theorem chk91:chkF Tryz.prog 93 sf91=true:=by kernel_rfl

def sf92:SF:=⟨14,[.t 2],.seq (.reg [om 2 (.c (.str [])) [2]]) (.seq (.regD 10 [oh 3 (.mv (.t 0)) [] [] [8,9,10,11,12],oh 4 (.nilc (.t 3)) [] [0] [8,9,10,11,12],oh 5 (.fld (.t 4)
  1) [] [0,1] [8,9,10,11,12],oh 6 (.load none (.t 5)) [] [0,1,2] [8,9,10,11,12],oh 7 (.sdat 1 (.t 6)) [] [0,1,2,3] [8,9,10,11,12],oh 8 (.mv (.t 0)) [] [] [3,4,5,6,7],oh 9 (.nilc (.t 8)
 ) [] [5] [3,4,5,6,7],oh 10 (.fld (.t 9) 1) [] [5,6] [3,4,5,6,7],oh 11 (.load none (.t 10)) [] [5,6,7] [3,4,5,6,7],oh 12 (.len false (.t 11)) [0,3,4,5,6,8,9,10,11] [5,6,7,8] [3,4,5,6,
 7],oh 13 (.ustr 5 (.t 7) (.t 12)) [7,12] [0,1,2,3,4,5,6,7,8,9] [],oh 2 (.mv (.t 13)) [13] [0,1,2,3,4,5,6,7,8,9,10] []]) (.ret))⟩
theorem chk92:chkF Tryz.prog 94 sf92=true:=by kernel_rfl

def sf105:SF:=⟨20,[],.seq (.reg [om 2 (.t 0) [],oq 3 (.nilc (.t 2)) [2],oq 4 (.fld (.t 3) 0) [3],oq 5 (.load none (.t 4)) [4],oq 6 (.pcmp false (.t 5) (.c (.val (.pointer none))
 )) [5]]) (.cond (.t 6) (.reg [om 7 (.t 0) [],om 8 (.t 0) [0],oq 9 (.cvp 140 2 (.t 8)) [8],oq 10 (.noesc 111 (.t 9)) [9],oq 11 (.cvp 140 2 (.t 10)) [10],oq 12 (.nilc (.t 7)) [7],oq 13 (.fld (.t 12)
  0) [12],ov (.store 1 (.t 13) (.t 11)) [11,13]]) (.seq (.reg [om 14 (.t 0) [],oq 15 (.nilc (.t 14)) [14],oq 16 (.fld (.t 15) 0) [15],oq 17 (.load none (.t 16)) [16],om 18 (.t 0) [0],
 oq 19 (.pcmp true (.t 17) (.t 18)) [17,18]]) (.cond (.t 19) (.bad) (.skip))))⟩
theorem chk105:chkF Tryz.prog 107 sf105=true:=by kernel_rfl

def sf106:SF:=⟨9,[.t 2],.seq (.reg [om 2 (.c (.int .i64 0)) [2]]) (.seq (.reg [om 3 (.t 0) [0],oq 4 (.bin .sub (.t 3) (.c (.int .i64 1))) [3],oq 5 (.conv .u64 (.t 4)) [4],oq 6 (.callp 112 [.t 5])
  [5],oq 7 (.bin .sub (.t 6) (.c (.int .i64 1))) [6],oq 8 (.bin .shl (.c (.int .i64 1)) (.t 7)) [7],om 2 (.t 8) [8]]) (.ret))⟩
theorem chk106:chkF Tryz.prog 108 sf106=true:=by kernel_rfl

def sf107:SF:=⟨23,[.t 4],.seq (.reg [om 4 (.c (.val (.slice none 0 0))) [4]]) (.seq (.reg [om 8 (.t 0) [0],oq 9 (.bslice 5 1 1 [.int .u8 0] [(0,1,.t 8)]) [8],om 5 (.t 9) [9]]) (.seq (.seq (.reg [om 10 (.t 1)
  [1],oq 11 (.len false (.t 10)) [],om 12 (.c (.int .i64 0)) []]) (.block 0 (.loop (.seq (.reg [oq 13 (.bin .lss (.t 12) (.t 11)) []]) (.seq (.cond (.t 13) (.skip) (.exit 0)) (.seq (.block 1 (.seq (.reg [oq 14 (.idxS (.t 10)
  (.t 12) 16) [],oq 15 (.load (some 16) (.t 14)) [14],oq 7 (.new 23 [.int .u8 0,.int .u8 0,.int .u8 0,.int .u8 0,.int .u8 0,.int .u8 0,.int .u8 0,.int .u8 0,.int .u8 0,.int .u8 0,.int .u8 0,
 .int .u8 0,.int .u8 0,.int .u8 0,.int .u8 0,.int .u8 0]) [],ov (.store 16 (.t 7) (.t 15)) [15]]) (.reg [om 16 (.t 5) [5],oq 17 (.slcA 16 1 (.t 7) none none) [7],oq 18 (.b2s (.t 17))
  [17],oq 19 (.call 43 [.t 18]) [18],oq 20 (.app 5 1 1 (.t 16) (.t 19)) [16,19],om 5 (.t 20) [20]]))) (.reg [oq 21 (.bin .add (.t 12) (.c (.int .i64 1))) [12],om 12 (.t 21) [21]]))))
 ))) (.seq (.reg [om 22 (.t 5) [5],om 4 (.t 22) [22]]) (.ret))))⟩
theorem chk107:chkF Tryz.prog 109 sf107=true:=by kernel_rfl

def sf109:SF:=⟨8,[.t 2],.seq (.reg [om 2 (.c (.int .i64 0)) [2]]) (.seq (.cond (.c (.bool false)) (.seq (.reg [om 3 (.t 0) [0],oq 4 (.conv .u32 (.t 3)) [3],oq 5 (.callp 113 [.t 4])
  [4],om 2 (.t 5) [5]]) (.ret)) (.skip)) (.seq (.reg [om 6 (.t 0) [0],oq 7 (.callp 114 [.t 6]) [6],om 2 (.t 7) [7]]) (.ret)))⟩
theorem chk109:chkF Tryz.prog 112 sf109=true:=by kernel_rfl

def sf111:SF:=⟨25,[.t 2],.seq (.reg [om 2 (.c (.int .i64 0)) []]) (.seq (.seq (.reg [om 3 (.t 0) [],oq 4 (.bin .geq (.t 3) (.c (.int .u64 4294967296))) [3]]) (.cond (.t 4) (.seq (.reg [om 5 (.t 0)
  [0],oq 6 (.bin .shr (.t 5) (.c (.int .u64 32))) [5],om 0 (.t 6) [6]]) (.reg [om 2 (.c (.int .i64 32)) []])) (.skip))) (.seq (.seq (.reg [om 7 (.t 0) [],oq 8 (.bin .geq (.t 7) (.c (.int .u64 65536)
 )) [7]]) (.cond (.t 8) (.seq (.reg [om 9 (.t 0) [0],oq 10 (.bin .shr (.t 9) (.c (.int .u64 16))) [9],om 0 (.t 10) [10]]) (.reg [om 11 (.t 2) [2],oq 12 (.bin .add (.t 11) (.c (.int .i64 16)
 )) [11],om 2 (.t 12) [12]])) (.skip))) (.seq (.seq (.reg [om 13 (.t 0) [],oq 14 (.bin .geq (.t 13) (.c (.int .u64 256))) [13]]) (.cond (.t 14) (.seq (.reg [om 15 (.t 0) [0],oq 16 (.bin .shr (.t 15)
  (.c (.int .u64 8))) [15],om 0 (.t 16) [16]]) (.reg [om 17 (.t 2) [2],oq 18 (.bin .add (.t 17) (.c (.int .i64 8))) [17],om 2 (.t 18) [18]])) (.skip))) (.seq (.reg [om 19 (.t 2) [2],
 om 20 (.t 0) [0],oq 21 (.conv .u8 (.t 20)) [20],oq 22 (.idxT (.c (.str [0,1,2,2,3,3,3,3,4,4,4,4,4,4,4,4,5,5,5,5,5,5,5,5,5,5,5,5,5,5,5,5,6,6,6,6,6,6,6,6,6,6,6,6,6,6,6,6,6,6,6,6,6,6,6,
 6,6,6,6,6,6,6,6,6,7,7,7,7,7,7,7,7,7,7,7,7,7,7,7,7,7,7,7,7,7,7,7,7,7,7,7,7,7,7,7,7,7,7,7,7,7,7,7,7,7,7,7,7,7,7,7,7,7,7,7,7,7,7,7,7,7,7,7,7,7,7,7,7,8,8,8,8,8,8,8,8,8,8,8,8,8,8,8,8,8,8,
 8,8,8,8,8,8,8,8,8,8,8,8,8,8,8,8,8,8,8,8,8,8,8,8,8,8,8,8,8,8,8,8,8,8,8,8,8,8,8,8,8,8,8,8,8,8,8,8,8,8,8,8,8,8,8,8,8,8,8,8,8,8,8,8,8,8,8,8,8,8,8,8,8,8,8,8,8,8,8,8,8,8,8,8,8,8,8,8,8,8,8,
 8,8,8,8,8,8,8,8,8,8,8,8,8,8,8,8,8,8,8])) (.t 21)) [21],oq 23 (.conv .i64 (.t 22)) [22],oq 24 (.bin .add (.t 19) (.t 23)) [19,23],om 2 (.t 24) [24]]) (.ret)))))⟩
theorem chk111:chkF Tryz.prog 114 sf111=true:=by kernel_rfl

end Go.Proofs.YtkfbkooobfepeaaGreatDoor.Sf

/- Custodians' members as cells. -/
namespace Go.Proofs.YtkfbkooobfepeaaGreatDoor
open Go Go.Sx Sf
set_option maxRecDepth 100000
set_option linter.unusedVariables false
variable {tS:List (Nat × List SV)}
structure Mb where
  name:List UInt8
  pub:List UInt8
  h:Int
  deriving DecidableEq
def Mb.sv (m:Mb):List SV:=.str m.name :: (bys m.pub++[.int .i64 m.h])
def mcs:List Mb→List SV
  | []=>[]
  | m :: l=>m.sv++mcs l
def Pub (l:List Mb):Prop:=∀ m ∈ l,m.pub.length=16
theorem Mb.sv_len {m:Mb} (h:m.pub.length=16):m.sv.length=18:=by simp [Mb.sv,len_bytes,h]
theorem Mb.sv_flat (m:Mb):SV.flatL m.sv=true:=by
  unfold Mb.sv
  simp only [SV.flatL,SV.flat,Bool.true_and]
  exact SV.flatL_append (flat_bytes _) rfl
theorem flat_mcs:∀ l,SV.flatL (mcs l)=true
  | []=>rfl
  | m :: l=>SV.flatL_append m.sv_flat (flat_mcs l)
theorem Pub.tail {m:Mb} {l:List Mb} (h:Pub (m :: l)):Pub l:=fun x hx=>h x (List.mem_cons_of_mem _ hx)
theorem Pub.head {m:Mb} {l:List Mb} (h:Pub (m :: l)):m.pub.length=16:=h m List.mem_cons_self
theorem len_mcs:∀ {l:List Mb},Pub l→(mcs l).length=l.length * 18
  | [],_=>rfl
  | m :: l,h=>by simp only [mcs,List.length_append,Mb.sv_len h.head,len_mcs h.tail,List.length_cons];omega
theorem row_mcs:∀ {l:List Mb},Pub l→∀ {i:Nat} {m:Mb},l[i]?=some m→∃ r,(mcs l).drop (i * 18)=m.sv++r
  | x :: l,h,0,m,hm=>by simp at hm;subst hm;exact ⟨mcs l,by simp [mcs]⟩
  | x :: l,h,i+1,m,hm=>by
    obtain ⟨r,hr⟩:=row_mcs h.tail (by simpa using hm)
    refine ⟨r,?_⟩
    rw [show (i+1) * 18=x.sv.length+i * 18 by rw [Mb.sv_len h.head];omega,← List.drop_drop]
    simp only [mcs,List.drop_left']
    exact hr
  | [],_,_,_,hm=>by simp at hm
theorem take_row {l:List Mb} (h:Pub l) {i:Nat} {m:Mb} (hm:l[i]?=some m):List.take 18 (List.drop (i * 18) (mcs l))=m.sv:=by
  obtain ⟨r,hr⟩:=row_mcs h hm
  rw [hr]
  exact List.take_left' (Mb.sv_len (h m (List.mem_of_getElem? hm)))
theorem cell_row {l:List Mb} (h:Pub l) {i:Nat} {m:Mb} (hm:l[i]?=some m) {k:Nat} (hk:k < 18):(mcs l)[i * 18+k]?=m.sv[k]?:=by
  obtain ⟨r,hr⟩:=row_mcs h hm
  rw [← List.getElem?_drop,hr,List.getElem?_append_left (by rw [Mb.sv_len (h m (List.mem_of_getElem? hm))];exact hk)]
theorem mb0 (m:Mb):m.sv[0]?=some (.str m.name):=(rfl)
theorem mb17 {m:Mb} (h:m.pub.length=16):m.sv[17]?=some (.int .i64 m.h):=by
  unfold Mb.sv
  rw [List.getElem?_cons_succ,List.getElem?_append_right (by rw [len_bytes];omega),len_bytes,h];rfl
theorem mbpub {m:Mb} (h:m.pub.length=16):List.take 16 (List.drop 1 m.sv)=bys m.pub:=by
  unfold Mb.sv
  rw [List.drop_one,List.tail_cons]
  exact List.take_left' (by rw [len_bytes,h])

def unM:Nat→List SV→Option (List Mb)
  | _,[]=>some []
  | f+1,.str s :: r=>match unB (r.take 16),r.drop 16 with
    | some p,.int .i64 h :: r'=>if p.length=16 then (match unM f r' with
      | some l=>some (⟨s,p,h⟩ :: l)
      | none=>none) else none
    | _,_=>none
  | _,_=>none
theorem unM_mcs:∀ {l:List Mb} {f:Nat},Pub l→l.length≤f→unM f (mcs l)=some l
  | [],f,_,_=>by cases f <;> rfl
  | m :: l,0,_,h=>by simp at h
  | m :: l,f+1,h,hf=>by
    have h16:=h.head
    have ih:=unM_mcs (l:=l) (f:=f) h.tail (by simpa using hf)
    simp only [mcs,Mb.sv,List.cons_append,List.append_assoc,unM]
    rw [List.take_left' (by rw [len_bytes,h16]),List.drop_left' (by rw [len_bytes,h16]),unB_bytes]
    simp only [List.nil_append,h16,if_true,ih]
theorem unM_some:∀ {f:Nat} {cells:List SV} {l:List Mb},unM f cells=some l→cells=mcs l∧Pub l
  | f,[],l,h=>by
    cases f <;> (simp only [unM] at h;cases h;exact ⟨rfl,by simp [Pub]⟩)
  | 0,x :: r,l,h=>by simp [unM] at h
  | f+1,x :: r,l,h=>by
    cases x <;> simp only [unM] at h <;> first | cases h | skip
    rename_i s
    split at h
    · rename_i p hh r' hp hd
      split at h
      · rename_i h16
        split at h
        · rename_i l' hl
          cases h
          obtain ⟨e,hP⟩:=unM_some hl
          subst e
          refine ⟨?_,?_⟩
          · have e2:=unB_some hp
            simp only [mcs,Mb.sv,List.cons_append,List.append_assoc,List.nil_append]
            rw [← e2,← hd,List.take_append_drop]
          · intro m hm
            rcases List.mem_cons.1 hm with rfl | hm
            · exact h16
            · exact hP m hm
        · cases h
      · cases h
    · cases h

theorem eqPat_bys:∀ (d d':List UInt8) (ps:List Tag) (l l':List SV) (b:Bool),d.length=d'.length→eqPat ps l l'=some b →
    eqPat (List.replicate d.length (.i .u8)++ps) (bys d++l) (bys d'++l')=some (d == d' && b)
  | [],[],ps,l,l',b,_,h=>by simpa [bys] using h
  | x :: d,y :: d',ps,l,l',b,hl,h=>by
    have ih:=eqPat_bys d d' ps l l' b (by simpa using hl) h
    have e1:eqTag (.i .u8) (SV.byte x) (SV.byte y)=some (x == y):=by
      simp only [eqTag,SV.byte,and_self,if_true]
      congr 1
      rw [Bool.eq_iff_iff]
      simp only [beq_iff_eq]
      constructor
      · intro h;exact UInt8.toNat_inj.1 (by omega)
      · rintro rfl;rfl
    simp only [List.length_cons,List.replicate_succ,List.cons_append,bys,List.map_cons,eqPat,e1]
    rw [show List.map SV.byte d=bys d from rfl,show List.map SV.byte d'=bys d' from rfl,ih]
    simp [Bool.and_assoc]
  | [],_ :: _,_,_,_,_,hl,_=>by simp at hl
  | _ :: _,[],_,_,_,_,hl,_=>by simp at hl

end Go.Proofs.YtkfbkooobfepeaaGreatDoor

/- Valid of package custodian. -/
namespace Go.Proofs.YtkfbkooobfepeaaGreatDoor
open Go Go.Sx Sf
set_option maxRecDepth 100000
set_option linter.unusedVariables false
variable {tS:List (Nat × List SV)}
def okM (m:Mb):Bool:=!(decide (m.name.length < 1) || decide (m.name.length > 12) || decide (m.h < 0) || decide (m.h > 6))
end Go.Proofs.YtkfbkooobfepeaaGreatDoor

/- Index and Kept of members. -/
namespace Go.Proofs.YtkfbkooobfepeaaGreatDoor
open Go Go.Sx Sf
set_option maxRecDepth 100000
set_option linter.unusedVariables false
variable {tS:List (Nat × List SV)}
def eqM (a b:Mb):Bool:=a.name == b.name && (a.pub == b.pub && (a.h == b.h && true))
theorem eqM_iff {a b:Mb}:eqM a b=true↔a=b:=by
  obtain ⟨n,p,h⟩:=a
  obtain ⟨n',p',h'⟩:=b
  simp only [eqM,Bool.and_eq_true,beq_iff_eq,and_true,Mb.mk.injEq]
theorem nlS_z {i s k:Nat} (h:k=0):nlS i s k=.val (.slice none 0 0):=by subst h;rfl
theorem nlM_z {i k:Nat} {e:TypeId} {cells:List SV} {m:Mem} (h:k=0):nlM i e cells m k=m:=by subst h;rfl
theorem nlN_z {i k:Nat} (h:k=0):nlN i k=i:=by subst h;rfl
theorem nlS_p {i s k:Nat} (h:0 < k):nlS i s k=.slc i 0 s k none:=by cases k with | zero=>omega | succ k=>rfl
theorem nlM_p {i k:Nat} {e:TypeId} {cells:List SV} {m:Mem} (h:0 < k):nlM i e cells m k=(i,⟨.own e,cells⟩) :: m:=by cases k with | zero=>omega | succ k=>rfl
theorem nlN_p {i k:Nat} (h:0 < k):nlN i k=i+1:=by cases k with | zero=>omega | succ k=>rfl
end Go.Proofs.YtkfbkooobfepeaaGreatDoor
