/-
  Plain laws: what is saved is loaded, and what is loaded is saved as the same bytes. No walk is in sight here.
-/
import Derived.Test.YtoifodabfpbjlaaGuardQ
namespace Go.Proofs.Ytoifodabfpbjlaa
open Go.RowKit

theorem readFrom_cons (x : Nat) (c : UInt8) (r : List UInt8) : readFrom x (c :: r) = readFrom (x * 256 + c.toNat) r := rfl

theorem readFrom_mul (x : Nat) (l : List UInt8) : readFrom x l = x * 256 ^ l.length + readM l := by
  induction l generalizing x with
  | nil => simp [readFrom, readM]
  | cons c r ih =>
    rw [readFrom_cons, ih]
    have : readM (c :: r) = c.toNat * 256 ^ r.length + readM r := by
      unfold readM
      rw [readFrom_cons, ih]
      simp [readM]
    rw [this, List.length_cons, Nat.pow_succ, Nat.add_mul, Nat.mul_assoc, Nat.mul_comm 256 (256 ^ r.length)]
    omega

theorem readM_cons (c : UInt8) (r : List UInt8) : readM (c :: r) = c.toNat * 256 ^ r.length + readM r := by
  unfold readM
  rw [readFrom_cons, readFrom_mul]
  simp [readM]

theorem readM_bound (l : List UInt8) : readM l < 256 ^ l.length := by
  induction l with
  | nil => simp [readM, readFrom]
  | cons c r ih =>
    rw [readM_cons, List.length_cons, Nat.pow_succ, Nat.mul_comm _ 256]
    have := c.toNat_lt
    have h : c.toNat * 256 ^ r.length ≤ 255 * 256 ^ r.length := Nat.mul_le_mul_right _ (by omega)
    omega

theorem bytesOf_succ (x n : Nat) : bytesOf x (n + 1) = UInt8.ofNat (x / 256 ^ n % 256) :: bytesOf x n := by
  unfold bytesOf
  rw [List.range_succ_eq_map, List.map_cons, List.map_map]
  congr 1
  · unfold byteOf
    rw [show n + 1 - 1 - 0 = n by omega, Nat.pow_mul]
  · apply List.map_congr_left
    intro k hk
    simp only [Function.comp, byteOf]
    congr 5
    omega

theorem bytesOf_mod (x n m : Nat) (h : n ≤ m) : bytesOf (x % 256 ^ m) n = bytesOf x n := by
  induction n with
  | zero => rfl
  | succ n ih =>
    rw [bytesOf_succ, bytesOf_succ, ih (by omega)]
    congr 2
    obtain ⟨d, rfl⟩ : ∃ d, m = n + (d + 1) := ⟨m - n - 1, by omega⟩
    rw [Nat.pow_add, Nat.mod_mul_right_div_self, Nat.pow_succ, Nat.mod_mul_left_mod]

/-- a number, out of its bytes -/
theorem readM_bytesOf (x n : Nat) (h : x < 256 ^ n) : readM (bytesOf x n) = x := by
  induction n generalizing x with
  | zero => simp at h; subst h; rfl
  | succ n ih =>
    rw [bytesOf_succ, readM_cons]
    have e1 : (UInt8.ofNat (x / 256 ^ n % 256)).toNat = x / 256 ^ n := by
      simp only [UInt8.toNat_ofNat']
      have : x / 256 ^ n < 256 := Nat.div_lt_of_lt_mul (by rw [Nat.pow_succ] at h; exact h)
      generalize x / 256 ^ n = y at *
      omega
    have e2 : (bytesOf x n).length = n := bytesOf_length x n
    rw [e1, e2, ← bytesOf_mod x n n (Nat.le_refl _), ih _ (Nat.mod_lt _ (Nat.pow_pos (by omega)))]
    exact Nat.div_add_mod' x (256 ^ n)

/-- the bytes of a number, out of the number -/
theorem bytesOf_readM (l : List UInt8) : bytesOf (readM l) l.length = l := by
  induction l with
  | nil => rfl
  | cons c r ih =>
    rw [List.length_cons, bytesOf_succ, readM_cons]
    have hb := readM_bound r
    have hp : 0 < 256 ^ r.length := Nat.pow_pos (by omega)
    have e1 : (c.toNat * 256 ^ r.length + readM r) / 256 ^ r.length = c.toNat := by
      rw [Nat.add_comm, Nat.add_mul_div_right _ _ hp, Nat.div_eq_of_lt hb]
      omega
    have hc := c.toNat_lt
    congr 1
    · rw [e1, Nat.mod_eq_of_lt hc]
      simp
    · rw [← bytesOf_mod _ _ r.length (Nat.le_refl _), Nat.add_comm, Nat.add_mul_mod_self_right, bytesOf_mod _ _ _ (Nat.le_refl _)]
      exact ih

/-! ### what is saved is loaded -/
theorem takeM_append (t r : List UInt8) (s : Bool) (n : Nat) (h : t.length = n) : takeM n (t ++ r) s = (t, r, s) := by
  unfold takeM
  rw [if_neg (by simp; omega), List.take_left' h, List.drop_left' h]

theorem longM_append (x : Nat) (r : List UInt8) (s : Bool) (h : x < 4294967296) : longM (bytesOf x 4 ++ r) s = (x, r, s) := by
  unfold longM
  rw [takeM_append _ _ _ _ (bytesOf_length x 4), readM_bytesOf x 4 (by simpa using h)]

theorem manyM_append (least x : Nat) (r : List UInt8) (s : Bool) (h : x < 4294967296) (hr : x ≤ r.length / least) : manyM least (bytesOf x 4 ++ r) s = (x, r, s) := by
  unfold manyM
  rw [longM_append x r s h, if_neg (by simpa using hr)]

theorem itemsTo_append (zs : List Nat) (r : List UInt8) (s : Bool) (h : ∀ z ∈ zs, z < 65536) (k : Nat) (hk : k ≤ zs.length) :
    itemsTo (zs.flatMap (fun z => bytesOf z 2) ++ r, s) k = (zs.take k, ((zs.drop k).flatMap (fun z => bytesOf z 2) ++ r, s)) := by
  induction k with
  | zero => simp [itemsTo]
  | succ k ih =>
    rw [itemsTo, ih (by omega)]
    have hd : zs.drop k = zs[k] :: zs.drop (k + 1) := List.drop_eq_getElem_cons hk
    simp only [hd, List.flatMap_cons, List.append_assoc]
    rw [takeM_append _ _ _ _ (bytesOf_length _ 2), readM_bytesOf _ 2 (by simpa using h _ (List.getElem_mem _)), List.take_succ_eq_append_getElem hk]

theorem flat_length (zs : List Nat) : (zs.flatMap (fun z => bytesOf z 2)).length = 2 * zs.length := by
  induction zs with
  | nil => rfl
  | cons z r ih => simp only [List.flatMap_cons, List.length_append, bytesOf_length, ih, List.length_cons]; omega

theorem listM_append (zs : List Nat) (r : List UInt8) (s : Bool) (h : ∀ z ∈ zs, z < 65536) (hl : zs.length < 4294967296) : listM (listBytes zs ++ r) s = (zs, r, s) := by
  unfold listM listBytes listTo
  rw [List.take_length, List.append_assoc, manyM_append 2 _ _ _ hl (by rw [List.length_append, flat_length]; omega)]
  rw [itemsTo_append zs r s h zs.length (Nat.le_refl _)]
  simp

theorem spotAt_append (sp : ByteArray × Int) (r : List UInt8) (s : Bool) (h1 : sp.1.size < 256) (h2 : 0 ≤ sp.2 ∧ sp.2 < 4294967296) : spotAt (spotBytes sp ++ r, s) = (sp, (r, s)) := by
  unfold spotAt spotBytes
  have e0 : UInt8.ofNat sp.1.size :: sp.1.data.toList ++ bytesOf sp.2.toNat 4 ++ r = [UInt8.ofNat sp.1.size] ++ (sp.1.data.toList ++ (bytesOf sp.2.toNat 4 ++ r)) := by simp
  have e1 : ([UInt8.ofNat sp.1.size].getD 0 0).toNat = sp.1.size := by simp [UInt8.toNat_ofNat']; omega
  have e2 : sp.1.data.toList.length = sp.1.size := rfl
  simp only [e0]
  rw [takeM_append _ _ _ 1 rfl]
  simp only [e1]
  rw [takeM_append _ _ _ _ e2]
  simp only
  rw [longM_append _ _ _ (by omega)]
  simp only
  have e3 : ((sp.2.toNat : Nat) : Int) = sp.2 := Int.toNat_of_nonneg h2.1
  rw [e3]

theorem spotsTo_append (sp : List (ByteArray × Int)) (r : List UInt8) (s : Bool) (h : ∀ x ∈ sp, x.1.size < 256 ∧ 0 ≤ x.2 ∧ x.2 < 4294967296) (k : Nat) (hk : k ≤ sp.length) :
    spotsTo (sp.flatMap spotBytes ++ r, s) k = (sp.take k, ((sp.drop k).flatMap spotBytes ++ r, s)) := by
  induction k with
  | zero => simp [spotsTo]
  | succ k ih =>
    rw [spotsTo, ih (by omega)]
    have hd : sp.drop k = sp[k] :: sp.drop (k + 1) := List.drop_eq_getElem_cons hk
    have hm := h _ (List.getElem_mem (h := hk))
    simp only [hd, List.flatMap_cons, List.append_assoc]
    rw [spotAt_append _ _ _ hm.1 hm.2, List.take_succ_eq_append_getElem hk]

theorem spots_length (sp : List (ByteArray × Int)) : 5 * sp.length ≤ (sp.flatMap spotBytes).length := by
  induction sp with
  | nil => simp
  | cons x r ih =>
    have : 5 ≤ (spotBytes x).length := by unfold spotBytes; simp [bytesOf_length]
    simp only [List.flatMap_cons, List.length_append, List.length_cons]
    omega

theorem toInts_toNat {l : List Int} (h : ∀ x ∈ l, 0 ≤ x) : toInts (l.map Int.toNat) = l := by
  unfold toInts
  rw [List.map_map]
  conv => rhs; rw [← List.map_id l]
  apply List.map_congr_left
  intro x hx
  simp [Int.toNat_of_nonneg (h x hx)]

theorem bodyLoad_saved (ws us : List Int) (sp : List (ByteArray × Int)) (h : wrongM ws us sp = 0) :
    bodyLoad (listBytes (ws.map Int.toNat) ++ listBytes (us.map Int.toNat) ++ bytesOf sp.length 4 ++ sp.flatMap spotBytes) = (⟨ws, us, sp⟩, ([], false)) := by
  obtain ⟨h1, h2, h3, h4, h5, h6⟩ := wrong_zero h
  unfold bodyLoad
  rw [List.append_assoc, List.append_assoc]
  rw [listM_append _ _ _ (by intro z hz; obtain ⟨x, hx, rfl⟩ := List.mem_map.1 hz; have := h4 x hx; omega) (by simp; omega)]
  simp only
  rw [listM_append _ _ _ (by intro z hz; obtain ⟨x, hx, rfl⟩ := List.mem_map.1 hz; have := h5 x hx; omega) (by simp; omega)]
  simp only
  rw [manyM_append 5 _ _ _ (by omega) (by have := spots_length sp; omega)]
  simp only
  have hs : ∀ x ∈ sp, x.1.size < 256 ∧ 0 ≤ x.2 ∧ x.2 < 4294967296 := by
    intro x hx
    have hx6 := h6 x hx
    have hn := hx6.1
    unfold namedM at hn
    have := (of_decide_eq_true hn).2.1
    have e2 : x.1.data.toList.length = x.1.size := rfl
    exact ⟨by omega, by omega, by omega⟩
  have := spotsTo_append sp [] false hs sp.length (Nat.le_refl _)
  rw [List.append_nil] at this
  rw [this, toInts_toNat (fun x hx => (h4 x hx).1), toInts_toNat (fun x hx => (h5 x hx).1)]
  simp

theorem load_saved (ws us : List Int) (sp : List (ByteArray × Int)) (h : wrongM ws us sp = 0) (hl : (saveM ws us sp).length ≤ 400000) : loadM (saveM ws us sp) = (0, ⟨ws, us, sp⟩) := by
  have h6 := bodyM_six ws us sp
  have hlen : (saveM ws us sp).length = (bodyM ws us sp).length + 2 := by unfold saveM; simp [bytesOf_length]
  have hbody : bodyM ws us sp = magic ++ (listBytes (ws.map Int.toNat) ++ listBytes (us.map Int.toNat) ++ bytesOf sp.length 4 ++ sp.flatMap spotBytes) := by
    unfold bodyM bodyTo
    simp
  have hmag : (saveM ws us sp).take 4 = magic := by
    unfold saveM
    rw [hbody, List.append_assoc]
    exact List.take_left' rfl
  have htake : (saveM ws us sp).take ((saveM ws us sp).length - 2) = bodyM ws us sp := by
    rw [hlen]; unfold saveM; exact List.take_left' (by omega)
  have hdrop : (saveM ws us sp).drop ((saveM ws us sp).length - 2) = bytesOf (Crc.crc (bodyM ws us sp)) 2 := by
    rw [hlen]; unfold saveM; exact List.drop_left' (by omega)
  have hsum : Crc.crc ((saveM ws us sp).take ((saveM ws us sp).length - 2)) = readM ((saveM ws us sp).drop ((saveM ws us sp).length - 2)) := by
    rw [htake, hdrop, readM_bytes_two _ (Crc.crc_lt _)]
  rw [load_good (by omega) (by omega) hmag hsum, htake]
  have hb4 : (bodyM ws us sp).drop 4 = listBytes (ws.map Int.toNat) ++ listBytes (us.map Int.toNat) ++ bytesOf sp.length 4 ++ sp.flatMap spotBytes := by
    rw [hbody]; exact List.drop_left' rfl
  rw [hb4, bodyLoad_saved ws us sp h]
  simp [h]

/-! ### what is loaded is saved -/
theorem takeM_good {n : Nat} {rest : List UInt8} {s : Bool} (h : (takeM n rest s).2.2 = false) :
    s = false ∧ rest = (takeM n rest s).1 ++ (takeM n rest s).2.1 ∧ (takeM n rest s).1.length = n := by
  unfold takeM at *
  split at h
  · cases h
  · rename_i h1
    rw [if_neg h1]
    exact ⟨h, by simp, by simp; omega⟩

theorem longM_good {rest : List UInt8} {s : Bool} (h : (longM rest s).2.2 = false) : s = false ∧ rest = bytesOf (longM rest s).1 4 ++ (longM rest s).2.1 := by
  obtain ⟨h1, h2, h3⟩ := takeM_good (n := 4) h
  refine ⟨h1, ?_⟩
  have : bytesOf (longM rest s).1 4 = (takeM 4 rest s).1 := by
    have := bytesOf_readM (takeM 4 rest s).1
    rw [h3] at this
    exact this
  rw [this]
  exact h2

theorem manyM_good {least : Nat} {rest : List UInt8} {s : Bool} (h : (manyM least rest s).2.2 = false) : s = false ∧ rest = bytesOf (manyM least rest s).1 4 ++ (manyM least rest s).2.1 := by
  unfold manyM at *
  split at h
  · cases h
  · rename_i h1
    rw [if_neg h1]
    exact longM_good h

theorem itemsTo_good {st : St} (k : Nat) (h : (itemsTo st k).2.2 = false) : st.2 = false ∧ st.1 = (itemsTo st k).1.flatMap (fun z => bytesOf z 2) ++ (itemsTo st k).2.1 := by
  induction k with
  | zero => exact ⟨h, by simp [itemsTo]⟩
  | succ k ih =>
    rw [itemsTo] at h
    obtain ⟨h1, h2, h3⟩ := takeM_good h
    obtain ⟨g1, g2⟩ := ih h1
    refine ⟨g1, ?_⟩
    rw [itemsTo]
    have hb := bytesOf_readM (takeM 2 (itemsTo st k).2.1 (itemsTo st k).2.2).1
    rw [h3] at hb
    simp only [List.flatMap_append, List.flatMap_cons, List.flatMap_nil, List.append_nil, List.append_assoc]
    rw [hb, ← h2]
    exact g2

theorem itemsTo_len (st : St) (k : Nat) : (itemsTo st k).1.length = k := by
  induction k with
  | zero => rfl
  | succ k ih => simp [itemsTo, ih]

theorem listM_good {rest : List UInt8} {s : Bool} (h : (listM rest s).2.2 = false) : s = false ∧ rest = listBytes (listM rest s).1 ++ (listM rest s).2.1 := by
  unfold listM at h
  obtain ⟨h1, h2⟩ := itemsTo_good _ h
  obtain ⟨h3, h4⟩ := manyM_good h1
  refine ⟨h3, ?_⟩
  unfold listM listBytes listTo
  rw [itemsTo_len, List.take_of_length_le (by rw [itemsTo_len]; omega), List.append_assoc, ← h2]
  exact h4

theorem spotAt_good {st : St} (h : (spotAt st).2.2 = false) : st.2 = false ∧ st.1 = spotBytes (spotAt st).1 ++ (spotAt st).2.1 := by
  unfold spotAt at *
  simp only at h ⊢
  obtain ⟨h1, h2⟩ := longM_good h
  obtain ⟨h3, h4, h5⟩ := takeM_good h1
  obtain ⟨h6, h7, h8⟩ := takeM_good h3
  refine ⟨h6, ?_⟩
  have hc := ((takeM 1 st.1 st.2).1.getD 0 0).toNat_lt
  generalize takeM 1 st.1 st.2 = t1 at *
  generalize takeM (t1.1.getD 0 0).toNat t1.2.1 t1.2.2 = t2 at *
  generalize longM t2.2.1 t2.2.2 = t3 at *
  obtain ⟨c, hc1⟩ : ∃ c, t1.1 = [c] := by
    match hl : t1.1, h8 with
    | [c], _ => exact ⟨c, rfl⟩
  rw [hc1] at h5 h7
  simp at h5
  unfold spotBytes
  have e1 : UInt8.ofNat (ByteArray.mk t2.1.toArray).size = c := by
    have : (ByteArray.mk t2.1.toArray).size = t2.1.length := by simp [ByteArray.size]
    rw [this, h5]
    simp
  rw [e1, h7, h4, h2]
  simp

theorem spotsTo_good {st : St} (k : Nat) (h : (spotsTo st k).2.2 = false) : st.2 = false ∧ st.1 = (spotsTo st k).1.flatMap spotBytes ++ (spotsTo st k).2.1 := by
  induction k with
  | zero => exact ⟨h, by simp [spotsTo]⟩
  | succ k ih =>
    rw [spotsTo] at h
    obtain ⟨h1, h2⟩ := spotAt_good h
    obtain ⟨g1, g2⟩ := ih h1
    refine ⟨g1, ?_⟩
    rw [spotsTo]
    simp only [List.flatMap_append, List.flatMap_cons, List.flatMap_nil, List.append_nil, List.append_assoc]
    rw [← h2]
    exact g2

theorem toNat_toInts (l : List Nat) : (toInts l).map Int.toNat = l := by
  unfold toInts
  rw [List.map_map]
  conv => rhs; rw [← List.map_id l]
  apply List.map_congr_left
  intro x _
  simp

theorem bodyLoad_good {b : List UInt8} (h1 : (bodyLoad b).2.2 = false) (h2 : (bodyLoad b).2.1 = []) :
    b = listBytes ((bodyLoad b).1.ws.map Int.toNat) ++ listBytes ((bodyLoad b).1.us.map Int.toNat) ++ bytesOf (bodyLoad b).1.sp.length 4 ++ (bodyLoad b).1.sp.flatMap spotBytes := by
  unfold bodyLoad at *
  simp only at h1 h2 ⊢
  obtain ⟨a1, a2⟩ := spotsTo_good _ h1
  obtain ⟨b1, b2⟩ := manyM_good a1
  obtain ⟨c1, c2⟩ := listM_good b1
  obtain ⟨_, d2⟩ := listM_good c1
  rw [h2, List.append_nil] at a2
  rw [toNat_toInts, toNat_toInts, spotsTo_length, List.append_assoc, List.append_assoc, ← a2, ← b2, ← c2, ← d2]

theorem save_loaded {b : List UInt8} {i : Img} (h : loadM b = (0, i)) : wrongM i.ws i.us i.sp = 0 ∧ saveM i.ws i.us i.sp = b ∧ b.length ≤ 400000 := by
  unfold loadM at h
  split at h
  · cases h
  rename_i h1
  split at h
  · cases h
  rename_i h2
  split at h
  · cases h
  rename_i h3
  simp only at h
  split at h
  · cases h
  rename_i h4
  split at h
  · rename_i h5
    have := congrArg Prod.fst h
    exact absurd this h5
  rename_i h5
  have hi := (congrArg Prod.snd h).symm
  simp only at hi
  subst hi
  have h5' : wrongM (bodyLoad ((b.take (b.length - 2)).drop 4)).1.ws (bodyLoad ((b.take (b.length - 2)).drop 4)).1.us (bodyLoad ((b.take (b.length - 2)).drop 4)).1.sp = 0 := by simpa using h5
  refine ⟨h5', ?_, by omega⟩
  have hg := bodyLoad_good (b := (b.take (b.length - 2)).drop 4) (by
    cases hs : (bodyLoad ((b.take (b.length - 2)).drop 4)).2.2
    · rfl
    · exact absurd (.inl hs) h4) (by
    cases hs : (bodyLoad ((b.take (b.length - 2)).drop 4)).2.1
    · rfl
    · exact absurd (.inr (by rw [hs]; simp)) h4)
  have hmag : b.take 4 = magic := by
    cases Decidable.em (b.take 4 = magic) with
    | inl h => exact h
    | inr h => exact absurd (.inr h) h2
  have hlen : 6 ≤ b.length := by
    rcases Nat.lt_or_ge b.length 6 with h | h
    · exact absurd (.inl h) h2
    · exact h
  have hbody : bodyM (bodyLoad ((b.take (b.length - 2)).drop 4)).1.ws (bodyLoad ((b.take (b.length - 2)).drop 4)).1.us (bodyLoad ((b.take (b.length - 2)).drop 4)).1.sp = b.take (b.length - 2) := by
    unfold bodyM bodyTo
    rw [List.take_length, List.append_assoc, List.append_assoc, List.append_assoc]
    rw [List.append_assoc, List.append_assoc] at hg
    rw [← hg, ← hmag]
    have : b.take 4 = (b.take (b.length - 2)).take 4 := by rw [List.take_take]; congr 1; omega
    rw [this, List.take_append_drop]
  unfold saveM
  rw [hbody]
  have h3' : Crc.crc (b.take (b.length - 2)) = readM (b.drop (b.length - 2)) := by simpa using h3
  have := bytesOf_readM (b.drop (b.length - 2))
  rw [h3']
  rw [List.length_drop, show b.length - (b.length - 2) = 2 by omega] at this
  rw [this, List.take_append_drop]
end Go.Proofs.Ytoifodabfpbjlaa
